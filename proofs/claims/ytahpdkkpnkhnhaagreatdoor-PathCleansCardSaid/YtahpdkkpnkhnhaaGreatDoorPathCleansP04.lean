/- Lemmas on the way to the law PathCleans (part 4): Md Na -/
import Derived.Test.YtahpdkkpnkhnhaaGreatDoorPathCleansP03
set_option linter.unusedVariables false
set_option linter.unusedSimpArgs false

/- Walks: Fault. -/
namespace Go.Proofs.YtahpdkkpnkhnhaaGreatDoor
open Go Go.Proofs Go.RowKit Go.Shelf
def faultE (p : Pl) (st : List Sx) (mc : Int) : Int := if ckState p st ≠ 0 then ckState p st else if inN p.ms.length mc then (if cvB (kdA p mc) then 0 else 20) else 10
set_option maxRecDepth 100000 in
set_option maxHeartbeats 1000000 in
theorem fault39 (w : World) (v1 v2 u : Value) (p : Pl) (st : List Sx) (mc : Int) (hw : WdR w) (hv : PlR w w.heap.size v1 v2 p) (hu : Sl Sx.enc 3 w w.heap.size u st) (hs : SzR st) : Calls Tryz.prog 39 #[.agg #[v1, v2], u, .int .i64 mc] w (StE w (faultE p st mc) (offL st (upL st mc st.length ++ [mc]))) := by
  have HP := Lib.hid (fun (w1 : World) (hb : Below w.heap.size w w1) => checkState35 w1 _ _ u p st (hw.later hb) (hv.later hb) (hu.later hb) hs)
  have HUP := Lib.hid (fun (w1 : World) (hb : Below w.heap.size w w1) => upstream108 w1 u st mc (hu.later hb))
  have HCV := Lib.hid (fun s t (w1 : World) (hb : Below w.heap.size w w1) => conveys84 s t w1 (hw.later hb))
  have HCL := Lib.hid (fun (w1 : World) (hb : Below w.heap.size w w1) => clone95 w1 u st (hu.later hb))
  have HPV := Lib.hid hv
  obtain ⟨a1, n1, a2, n2, rfl, rfl⟩ := hv.agg
  obtain ⟨a3, n3, rfl, _, _⟩ := id hu
  clear hw hv hu hs
  have HB := Lib.hid ((Below.refl w.heap.size w).alloc (Nat.le_refl _) (.cells #[.slice a1 p.ms.length n1, .slice a2 p.arcs.length n2] 25))
  have HX := Lib.hid (Box.new w #[.slice a1 p.ms.length n1, .slice a2 p.arcs.length n2] 25)
  have HOK := Lib.hid (fun h : ckState p st = 0 => ckState_ok h)
  obtain ⟨E, hE⟩ : ∃ E, faultE p st mc = E := ⟨_, rfl⟩
  rw [hE]
  unfold faultE at hE
  have HE := Lib.hid hE
  clear hE
  obtain ⟨cp, hcp⟩ : ∃ c, ckState p st = c := ⟨_, rfl⟩
  rw [hcp] at HP HE HOK
  clear hcp
  obtain ⟨n, hn⟩ : ∃ n, p.ms.length = n := ⟨_, rfl⟩
  obtain ⟨m, hm⟩ : ∃ m, p.arcs.length = m := ⟨_, rfl⟩
  obtain ⟨sn, hsn⟩ : ∃ m, st.length = m := ⟨_, rfl⟩
  rw [hn] at HB HX HP HE HPV ⊢
  rw [hm] at HB HX HP HPV ⊢
  rw [hsn] at HP HUP HCL ⊢
  have HN := Lib.hid hn
  have HSN := Lib.hid hsn
  clear hn hm hsn
  obtain ⟨Q, hQ⟩ : ∃ Q, StE w E (offL st (upL st mc sn ++ [mc])) = Q := ⟨_, rfl⟩
  rw [hQ]
  have HQ := Lib.hid hQ
  clear hQ
  go_enter Tryz.func39, Tryz.ntmps39
  go_wp2_with fail
  refine (HP.out _ HB.out).mono ?_
  rintro e w2 ⟨rfl, hb2⟩
  have HB2 := Lib.hid (HB.out.trans (hb2.mono HB.out.size))
  have HX2 := Lib.hid (HX.out.later hb2)
  obtain ⟨x0, x1, xf, xz⟩ := HX2.out.v2
  clear hb2
  by_cases hc0 : cp = 0
  rotate_left
  · have k0 : (cp != 0) = true := by simpa using hc0
    rw [if_pos hc0] at HE
    have HC0 := Lib.hid hc0
    clear hc0
    go_wp2_with fail
    rw [← HQ.out, ← HE.out]
    exact StE.no HC0.out HB2.out
  subst hc0
  rw [if_neg (by simp)] at HE
  obtain ⟨hok1, hok2, _, _⟩ := HOK.out rfl
  have HN64 := Lib.hid (show n ≤ 64 by rw [← HN.out]; exact hok1.le)
  have HSEQ := Lib.hid (show sn = n by rw [← HSN.out, hok2, HN.out])
  have hs64 : sn ≤ 64 := by have := HN64.out; have := HSEQ.out; omega
  clear hok1 hok2 HOK
  have HB3 := Lib.hid (HB2.out.alloc HB2.out.size (.cells #[.int .i64 mc] 3))
  have HX3 := Lib.hid (HX2.out.alloc (.cells #[.int .i64 mc] 3))
  have HU79 := Lib.hid (unknown79 a1 n n1 (.slice a2 m n2) _ [mc] _ (Sl.lit encI_len [mc] w2 #[.int .i64 mc] 3 1 rfl rfl (by simp)))
  obtain ⟨qm, hqm⟩ : ∃ q, inN n mc = q := ⟨_, rfl⟩
  have HUE := Lib.hid (show unkE n [mc] = if qm then 0 else 10 by unfold unkE; simp only [List.any_cons, List.any_nil, Bool.or_false, hqm]; cases qm <;> rfl)
  rw [HUE.out] at HU79
  rw [hqm] at HE
  have HQM := Lib.hid hqm
  clear hqm
  go_wp2_with fail
  refine HU79.out.mono ?_
  rintro e w4 ⟨rfl, hb4⟩
  have HB4 := Lib.hid (HB3.out.trans (hb4.mono HB3.out.size))
  have HX4 := Lib.hid (HX3.out.later hb4)
  clear hb4 x0 x1 xf xz
  cases qm with
  | false =>
    have HE2 := Lib.hid (show E = 10 by rw [← HE.out]; rfl)
    go_wp2_with fail
    rw [← HQ.out, HE2.out]
    exact StE.no (by decide) HB4.out
  | true =>
  rw [if_pos rfl] at HE
  obtain ⟨x, hx0, hxn⟩ := inN_nat HQM.out
  subst hx0
  obtain ⟨⟨a1', c1', e1', hl1, hA1⟩, _⟩ := HPV.out
  simp only [Value.slice.injEq] at e1'
  obtain ⟨rfl, hnn, rfl⟩ := e1'
  have hxl : x < p.ms.length := by rw [HN.out]; exact hxn
  obtain ⟨b1, off1, rfl, hbb1, hcells1⟩ := hA1 (by omega)
  have HCM := Lib.hid (hcells1 x hxl)
  have HKD := Lib.hid (kdA_nat hxl)
  rw [HKD.out] at HE
  clear hA1 hcells1 hl1 hnn HKD
  generalize p.ms[x] = mx at *
  clear hxl
  obtain ⟨sm, tm⟩ := mx
  dsimp only at HE
  have HK84 := Lib.hid (HCV.out sm tm)
  obtain ⟨qc, hqc⟩ : ∃ q, cvB sm = q := ⟨_, rfl⟩
  rw [hqc] at HK84 HE
  clear hqc HCV
  obtain ⟨x0, x1, xf, xz⟩ := HX4.out.v2
  obtain ⟨m0, m1⟩ := (HCM.out.below HB4.out hbb1).c2
  have hb1z := Nat.lt_of_lt_of_le hbb1 HB4.out.size
  dsimp only at m0 m1
  go_wp2_with fail
  refine (HK84.out _ HB4.out).mono ?_
  rintro e w5 ⟨rfl, hb5⟩
  have HB5 := Lib.hid (HB4.out.trans (hb5.mono HB4.out.size))
  clear hb5 x0 x1 xf xz m0 m1 hb1z
  cases qc with
  | false =>
    have HE2 := Lib.hid (show E = 20 by rw [← HE.out]; rfl)
    go_wp2_with fail
    rw [← HQ.out, HE2.out]
    exact StE.no (by decide) HB5.out
  | true =>
  have HE2 := Lib.hid (show E = 0 by rw [← HE.out]; rfl)
  clear HE
  go_wp2_with fail
  refine (HCL.out _ HB5.out).mono ?_
  rintro e w6 ⟨v, rfl, hown, hb6⟩
  have HB6 := Lib.hid (HB5.out.trans (hb6.mono HB5.out.size))
  have hsx : x < sn := by rw [HSEQ.out]; exact hxn
  obtain ⟨g, cap, hvv, hg1, hg2⟩ := hown.form (by rw [HSN.out]; omega)
  rw [HSN.out] at hvv
  subst hvv
  have HLX := Lib.hid (fun l => (offL_len l st).trans HSN.out)
  have HSX := Lib.hid (set_self st x (by rw [HSN.out]; exact hsx))
  have HFA := Lib.hid (show offAt st (x : Int) = st.set x (offX (st.getD x s0)) from rfl)
  have hgw : w.heap.size ≤ g := Nat.le_trans HB5.out.size hg1
  have hown2 := hown
  rw [← HSX.out] at hown2
  generalize st.getD x s0 = sx at *
  obtain ⟨rn, fd, gr⟩ := sx
  have o0 := (hown2.atS HSN.out Sx.enc_len hsx).c3.1
  have ofz := hown2.frozenS HSN.out
  have oz := hown2.ltN.2
  have hof := hown2.setS HSN.out Sx.enc_len hsx 0 (by omega) (.bool false) ⟨false, fd, gr⟩ rfl
  have hbf := HB6.out.setCell (p := ⟨g, x * 3 + 0, none⟩) (by dsimp only; omega) (.bool false)
  simp only [Nat.add_zero] at hof hbf
  have HOF := Lib.hid (show Own Sx.enc 3 100 (w6.setCell ⟨g, x * 3, none⟩ (.bool false)) w.heap.size (.slice (some ⟨g, 0, none⟩) sn cap) (offAt st x) by rw [HFA.out]; exact hof.lower HB5.out.size)
  have HBF := Lib.hid hbf
  clear hof hbf hown hown2 hb6 hg1 hg2
  go_wp2_with fail
  clear o0 ofz oz
  refine (HUP.out _ HBF.out (by have := HN64.out; have := HSEQ.out; omega)).mono ?_
  rintro e w7 ⟨O, gO, rfl, ho, hol, hor, hb7⟩
  have HB7 := Lib.hid (HBF.out.trans (hb7.mono HBF.out.size))
  have HO7 := Lib.hid (HOF.out.later hb7)
  have hg7 := HOF.out.ltN.2
  have HOO := Lib.hid ho
  have HOL := Lib.hid hol
  have HOR := Lib.hid hor
  obtain ⟨BB, hBB⟩ : ∃ b, (w6.setCell ⟨g, x * 3, none⟩ (.bool false)).heap.size = b := ⟨_, rfl⟩
  rw [hBB] at HOO hg7
  clear hb7 ho hol hor hBB HOF HBF
  go_wp2_with fail
  go_loopw [43] (fun i wr => ∃ k : Nat, k ≤ sn ∧ i = .int .i64 k ∧ Below w.heap.size w wr ∧ Own Sx.enc 3 100 wr w.heap.size (.slice (some ⟨g, 0, none⟩) sn cap) (offL (offAt st x) (upL st x k)) ∧ Own encB 1 4 wr BB (.slice (some ⟨gO, 0, none⟩) sn sn) O) (fun i _ => sn - (intOf i).toNat)
  case atStart => exact ⟨0, by omega, rfl, HB7.out, HO7.out, HOO.out⟩
  case round =>
    clear HB7 HO7 HOO
    obtain ⟨k, hk, rfl, hbe, ho, hoo⟩ := hrel
    have HBE := Lib.hid hbe
    have HO := Lib.hid ho
    have HOO := Lib.hid hoo
    clear hbe ho hoo
    by_cases hlt : k < sn
    rotate_left
    · obtain rfl : sn = k := by omega
      go_wp2_with fail
      rw [← HQ.out, HE2.out]
      refine StE.yes ?_ HBE.out
      rw [offL_snoc, ← offL_at]
      exact HO.out
    have hkO : k < O.length := by rw [HOL.out]; exact hlt
    have hat := HOO.out.atN HOL.out encB_len k hkO
    obtain ⟨ok, hok⟩ : ∃ b, O[k] = b := ⟨_, rfl⟩
    rw [hok] at hat
    have o0 := hat.c1
    rw [Nat.mul_one] at o0
    have hgz2 := HOO.out.ltN.2
    have HUB := Lib.hid (upB_of HOR.out (show O[k]? = some ok by rw [List.getElem?_eq_getElem hkO, hok]))
    have HUS := Lib.hid (upL_succ st x k)
    rw [HUB.out] at HUS
    have HFS := Lib.hid (offL_snoc (offAt st x) (upL st x k) (k : Int))
    have HLL := Lib.hid ((offL_len (upL st x k) (offAt st x)).trans ((offAt_len st x).trans HSN.out))
    clear hat hok hkO HUB
    cases ok with
    | false =>
      go_wp2_with fail
      go_roundw
      case rel => exact ⟨k + 1, by omega, by go_num, HBE.out, by rw [HUS.out, if_neg (by simp)]; exact HO.out, HOO.out⟩
      case measure => simp [intOf]; omega
    | true =>
      have HFA2 := Lib.hid (show offAt (offL (offAt st x) (upL st x k)) (k : Int) = (offL (offAt st x) (upL st x k)).set k (offX ((offL (offAt st x) (upL st x k)).getD k s0)) from rfl)
      have HSE := Lib.hid (set_self (offL (offAt st x) (upL st x k)) k (by rw [HLL.out]; exact hlt))
      generalize offL (offAt st x) (upL st x k) = L at *
      rw [← HSE.out] at HO
      generalize L.getD k s0 = sy at *
      obtain ⟨ry, fy, gy⟩ := sy
      have p0 := (HO.out.atS HLL.out Sx.enc_len hlt).c3.1
      have pfz := HO.out.frozenS HLL.out
      have pz := HO.out.ltN.2
      have hof := HO.out.setS HLL.out Sx.enc_len hlt 0 (by omega) (.bool false) ⟨false, fy, gy⟩ rfl
      have hbf := HBE.out.setCell (p := ⟨g, k * 3 + 0, none⟩) (by dsimp only; omega) (.bool false)
      have hvf := HOO.out.below (a := ⟨g, k * 3 + 0, none⟩) (.bool false) (by dsimp only; omega)
      simp only [Nat.add_zero] at hof hbf hvf
      have HOF := Lib.hid hof
      have HBF := Lib.hid hbf
      have HVF := Lib.hid hvf
      clear hof hbf hvf
      go_wp2_with fail
      go_roundw
      case rel => exact ⟨k + 1, by omega, by go_num, HBF.out, by rw [HUS.out, if_pos rfl, HFS.out, HFA2.out]; exact HOF.out, HVF.out⟩
      case measure => simp [intOf]; omega
end Go.Proofs.YtahpdkkpnkhnhaaGreatDoor

/- Plain: what the commands make of a valid state. -/
namespace Go.Proofs.YtahpdkkpnkhnhaaGreatDoor
open Go Go.Proofs Go.RowKit Go.Shelf
abbrev sAt (st : List Sx) (x : Nat) : Sx := st.getD x s0
/-- A valid state, said by its machines. -/
structure StV (p : Pl) (st : List Sx) : Prop where
  len : st.length = p.ms.length
  run : ∀ x : Nat, x < p.ms.length → (sAt st x).runs = true → cvB (kdA p x) = true
  fd : ∀ x : Nat, x < p.ms.length → (sAt st x).feeds = -1 ∨ (⟨x, (sAt st x).feeds⟩ : Ar) ∈ p.arcs
  gr : ∀ x : Nat, x < p.ms.length → (sAt st x).grain.toList.isEmpty = false → isName (sAt st x).grain = true ∧ kpB (kdA p x) = true
  nr : ∀ x : Nat, x < p.ms.length → (sAt st x).feeds < 0 → (sAt st x).runs = false
  uq : ∀ x y : Nat, x < p.ms.length → y < p.ms.length → 0 ≤ (sAt st x).feeds → (sAt st x).feeds = (sAt st y).feeds → x = y
  fl : ∀ x y : Nat, x < p.ms.length → (sAt st x).feeds = (y : Int) → (sAt st x).runs = true → cvB (kdA p y) = true → (sAt st y).runs = true
  g1 : ∀ x y : Nat, x < p.ms.length → (sAt st x).feeds = (y : Int) → kpB (kdA p x) = true → (sAt st x).grain.toList.isEmpty = false
  g2 : ∀ x y : Nat, x < p.ms.length → (sAt st x).feeds = (y : Int) → kpB (kdA p y) = true → (sAt st y).grain.toList.isEmpty = false
  g3 : ∀ x y : Nat, x < p.ms.length → (sAt st x).feeds = (y : Int) → kpB (kdA p x) = true → kpB (kdA p y) = true → (sAt st x).grain.toList = (sAt st y).grain.toList
theorem fedB_iff {st : List Sx} {i : Nat} (hi : i ≤ st.length) (x : Int) : fedB st i x = true ↔ ∃ k, k < i ∧ (sAt st k).feeds = x := by
  unfold fedB
  rw [List.any_eq_true]
  constructor
  · rintro ⟨s, hs, he⟩
    obtain ⟨k, hk, rfl⟩ := List.mem_iff_getElem.1 hs
    rw [List.length_take] at hk
    refine ⟨k, by omega, ?_⟩
    rw [List.getElem_take] at he
    rw [sAt, stGet (by omega)]
    exact eq_of_beq he
  · rintro ⟨k, hk, he⟩
    refine ⟨st[k]'(by omega), ?_, ?_⟩
    · rw [List.mem_iff_getElem]
      exact ⟨k, by rw [List.length_take]; omega, List.getElem_take⟩
    · rw [sAt, stGet (by omega)] at he
      exact beq_iff_eq.2 he
theorem stE_zero {p : Pl} {m : Nat} {s : Sx} (h1 : s.runs = true → cvB (kdA p m) = true) (h2 : s.feeds = -1 ∨ (⟨m, s.feeds⟩ : Ar) ∈ p.arcs) (h3 : s.grain.toList.isEmpty = false → isName s.grain = true ∧ kpB (kdA p m) = true) : stE p m s = 0 := by
  unfold stE
  rw [if_neg, if_neg, if_neg, if_neg]
  · rintro ⟨a, b⟩; rw [(h3 a).2] at b; cases b
  · rintro ⟨a, b⟩; rw [(h3 a).1] at b; cases b
  · rintro ⟨a, b⟩
    rcases h2 with h | h
    · exact a h
    · exact absurd h (of_decide_eq_false b)
  · intro h
    simp only [Bool.and_eq_true, Bool.not_eq_true'] at h
    rw [h1 h.1] at h; cases h.2
theorem ckStL_zero {p : Pl} : ∀ {r : List Sx} {k : Nat}, (∀ i (h : i < r.length), stE p (k + i) r[i] = 0) → ckStL p k r = 0
  | [], _, _ => rfl
  | a :: r, k, h => by
    unfold ckStL
    have h0 := h 0 (by simp)
    simp only [Nat.add_zero, List.getElem_cons_zero] at h0
    rw [if_neg (by rw [h0]; simp)]
    refine ckStL_zero fun i hi => ?_
    have := h (i + 1) (by simpa using hi)
    simpa [Nat.add_assoc, Nat.add_comm 1 i] using this
theorem vdK_ok {p : Pl} {st : List Sx} {i : Nat} (hi : i ≤ st.length) (h : vdK p st i = true) :
    ((sAt st i).feeds < 0 → (sAt st i).runs = false) ∧ (0 ≤ (sAt st i).feeds → (∀ k, k < i → (sAt st k).feeds ≠ (sAt st i).feeds)) ∧
      ∀ y : Nat, (sAt st i).feeds = (y : Int) → ((sAt st i).runs = true → cvB (kdA p y) = true → (sAt st y).runs = true) ∧ (kpB (kdA p i) = true → (sAt st i).grain.toList.isEmpty = false) ∧ (kpB (kdA p y) = true → (sAt st y).grain.toList.isEmpty = false) ∧
        (kpB (kdA p i) = true → kpB (kdA p y) = true → (sAt st i).grain.toList = (sAt st y).grain.toList) := by
  unfold vdK at h
  change (if (sAt st i).feeds < 0 then !(sAt st i).runs else
  !(fedB st i (sAt st i).feeds || ((sAt st i).runs && cvB (kdA p (sAt st i).feeds) && !(sAt st (sAt st i).feeds.toNat).runs)) &&
  !((kpB (kdA p i) && (sAt st i).grain.toList.isEmpty) || (kpB (kdA p (sAt st i).feeds) && (sAt st (sAt st i).feeds.toNat).grain.toList.isEmpty) || (kpB (kdA p i) && kpB (kdA p (sAt st i).feeds) && !((sAt st i).grain.toList == (sAt st (sAt st i).feeds.toNat).grain.toList)))) = true at h
  by_cases hf : (sAt st i).feeds < 0
  · rw [if_pos hf] at h
    refine ⟨fun _ => by simpa using h, fun h0 => by omega, fun y hy => by omega⟩
  · rw [if_neg hf] at h
    simp only [Bool.and_eq_true, Bool.not_eq_true', Bool.or_eq_false_iff] at h
    obtain ⟨⟨h1, h2⟩, ⟨h3, h4⟩, h5⟩ := h
    refine ⟨fun h0 => absurd h0 hf, fun _ k hk e => ?_, fun y hy => ?_⟩
    · have := (fedB_iff hi (sAt st i).feeds).2 ⟨k, hk, e⟩
      rw [h1] at this; cases this
    · rw [hy, Int.toNat_natCast] at h2 h4 h5
      refine ⟨fun a b => ?_, fun a => ?_, fun a => ?_, fun a b => ?_⟩
      · rw [a, b] at h2; simpa using h2
      · rw [a] at h3; simpa using h3
      · rw [a] at h4; simpa using h4
      · rw [a, b] at h5; simpa using h5
theorem vdK_mk {p : Pl} {st : List Sx} {i : Nat} (hi : i ≤ st.length) (h1 : (sAt st i).feeds < 0 → (sAt st i).runs = false) (h2 : 0 ≤ (sAt st i).feeds → (∀ k, k < i → (sAt st k).feeds ≠ (sAt st i).feeds))
    (h3 : ∀ y : Nat, (sAt st i).feeds = (y : Int) → ((sAt st i).runs = true → cvB (kdA p y) = true → (sAt st y).runs = true) ∧ (kpB (kdA p i) = true → (sAt st i).grain.toList.isEmpty = false) ∧ (kpB (kdA p y) = true → (sAt st y).grain.toList.isEmpty = false) ∧
        (kpB (kdA p i) = true → kpB (kdA p y) = true → (sAt st i).grain.toList = (sAt st y).grain.toList)) : vdK p st i = true := by
  unfold vdK
  change (if (sAt st i).feeds < 0 then !(sAt st i).runs else
  !(fedB st i (sAt st i).feeds || ((sAt st i).runs && cvB (kdA p (sAt st i).feeds) && !(sAt st (sAt st i).feeds.toNat).runs)) &&
  !((kpB (kdA p i) && (sAt st i).grain.toList.isEmpty) || (kpB (kdA p (sAt st i).feeds) && (sAt st (sAt st i).feeds.toNat).grain.toList.isEmpty) || (kpB (kdA p i) && kpB (kdA p (sAt st i).feeds) && !((sAt st i).grain.toList == (sAt st (sAt st i).feeds.toNat).grain.toList)))) = true
  by_cases hf : (sAt st i).feeds < 0
  · rw [if_pos hf, h1 hf]; rfl
  · rw [if_neg hf]
    obtain ⟨y, hy⟩ : ∃ y : Nat, (sAt st i).feeds = (y : Int) := ⟨(sAt st i).feeds.toNat, by omega⟩
    obtain ⟨a, b, c, d⟩ := h3 y hy
    have hfd : fedB st i (sAt st i).feeds = false := by
      cases hq : fedB st i (sAt st i).feeds with
      | false => rfl
      | true =>
        obtain ⟨k, hk, e⟩ := (fedB_iff hi _).1 hq
        exact absurd e (h2 (by omega) k hk)
    rw [hfd, hy, Int.toNat_natCast]
    simp only [Bool.and_eq_true, Bool.not_eq_true', Bool.or_eq_false_iff]
    refine ⟨⟨trivial, ?_⟩, ⟨?_, ?_⟩, ?_⟩
    · cases q1 : (sAt st i).runs with
      | false => rfl
      | true =>
        cases q2 : cvB (kdA p y) with
        | false => rfl
        | true => rw [a q1 q2]; rfl
    · cases q1 : kpB (kdA p i) with
      | false => rfl
      | true => rw [b q1]; rfl
    · cases q1 : kpB (kdA p y) with
      | false => rfl
      | true => rw [c q1]; rfl
    · cases q1 : kpB (kdA p i) with
      | false => rfl
      | true =>
        cases q2 : kpB (kdA p y) with
        | false => rfl
        | true => rw [d q1 q2]; simp
theorem StV.of {p : Pl} {st : List Sx} (h : ckState p st = 0) : StV p st := by
  obtain ⟨hok, hlen, hst, hvd⟩ := ckState_ok h
  rw [validB_iff] at hvd
  have hs : ∀ x : Nat, x < p.ms.length → stE p x (sAt st x) = 0 := fun x hx => by
    have := ckStL_ok hst x (by omega)
    rw [Nat.zero_add] at this
    rw [sAt, stGet (by omega)]; exact this
  have hv := fun (x : Nat) (hx : x < p.ms.length) => vdK_ok (p := p) (st := st) (i := x) (by omega) (hvd x (by omega))
  have hin : ∀ x y : Nat, x < p.ms.length → (sAt st x).feeds = (y : Int) → y < p.ms.length := fun x y hx hy => by
    rcases (stE_ok (hs x hx)).2.1 with h1 | h1
    · omega
    · obtain ⟨k, hk, hkn⟩ := inN_nat (hok.ins _ h1).2.1
      dsimp only at hk; omega
  refine ⟨hlen, fun x hx => (stE_ok (hs x hx)).1, fun x hx => (stE_ok (hs x hx)).2.1, fun x hx => (stE_ok (hs x hx)).2.2, fun x hx => (hv x hx).1, fun x y hx hy h0 he => ?_, fun x y hx hf => ((hv x hx).2.2 y hf).1, fun x y hx hf => ((hv x hx).2.2 y hf).2.1,
    fun x y hx hf => ((hv x hx).2.2 y hf).2.2.1, fun x y hx hf => ((hv x hx).2.2 y hf).2.2.2⟩
  rcases Nat.lt_trichotomy x y with h1 | h1 | h1
  · exact absurd he ((hv y hy).2.1 (by omega) x h1)
  · exact h1
  · exact absurd he.symm ((hv x hx).2.1 h0 y h1)
theorem StV.ck {p : Pl} {st : List Sx} (hck : ckPlant p = 0) (h : StV p st) : ckState p st = 0 := by
  unfold ckState
  have h1 : ckStL p 0 st = 0 := ckStL_zero fun i hi => by
    have hx : i < p.ms.length := by have := h.len; omega
    rw [Nat.zero_add]
    have e : st[i] = sAt st i := (stGet hi).symm
    rw [e]
    exact stE_zero (h.run i hx) (h.fd i hx) (h.gr i hx)
  have h2 : validB p st = true := (validB_iff p st).2 fun i hi => by
    have hx : i < p.ms.length := by have := h.len; omega
    exact vdK_mk (by omega) (h.nr i hx) (fun h0 k hk e => absurd (h.uq k i (by omega) hx (by omega) e) (by omega)) fun y hy => ⟨h.fl i y hx hy, h.g1 i y hx hy, h.g2 i y hx hy, h.g3 i y hx hy⟩
  rw [if_neg (by rw [hck]; simp), if_neg (by rw [h.len]; simp), if_neg (by rw [h1]; simp), if_pos h2]
/-- Changes along a list of places. -/
def alongTo (F : Nat → Sx → Sx) (l : List Int) (st : List Sx) : Nat → List Sx
  | 0 => st
  | k + 1 => (alongTo F l st k).set (l.getD k 0).toNat (F k ((alongTo F l st k).getD (l.getD k 0).toNat s0))
theorem along_len (F : Nat → Sx → Sx) (l : List Int) (st : List Sx) (k : Nat) : (alongTo F l st k).length = st.length := by
  induction k with
  | zero => rfl
  | succ k ih => rw [alongTo, List.length_set, ih]
theorem start_along (p : Pl) (l : List Int) (g : ByteArray) (st : List Sx) : ∀ k, startTo p l g st k = alongTo (startV p l g) l st k
  | 0 => rfl
  | k + 1 => by rw [startTo, alongTo, start_along p l g st k]
theorem stop_along (p : Pl) (l : List Int) (cl : Bool) (st : List Sx) : ∀ k, stopTo p l cl st k = alongTo (stopV p l cl) l st k
  | 0 => rfl
  | k + 1 => by rw [stopTo, alongTo, stop_along p l cl st k]
theorem resume_along (p : Pl) (l : List Int) (st : List Sx) : ∀ k, resumeTo p l st k = alongTo (resumeV p l) l st k
  | 0 => rfl
  | k + 1 => by rw [resumeTo, alongTo, resume_along p l st k]
/-- Where no place of the list is, nothing changes. -/
theorem along_off (F : Nat → Sx → Sx) (l : List Int) (st : List Sx) (x : Nat) : ∀ k, (∀ j, j < k → (l.getD j 0).toNat ≠ x) → sAt (alongTo F l st k) x = sAt st x
  | 0, _ => rfl
  | k + 1, h => by
    show (alongTo F l st (k + 1)).getD x s0 = _
    rw [alongTo, getD_set, if_neg (fun hh => h k (by omega) hh.1)]
    exact along_off F l st x k fun j hj => h j (by omega)
theorem along_on (F : Nat → Sx → Sx) (l : List Int) (st : List Sx) (hin : ∀ j, j < l.length → (l.getD j 0).toNat < st.length) (hnd : ∀ i j, i < l.length → j < l.length → (l.getD i 0).toNat = (l.getD j 0).toNat → i = j) :
    ∀ k, k ≤ l.length → ∀ j, j < k → sAt (alongTo F l st k) (l.getD j 0).toNat = F j (sAt st (l.getD j 0).toNat)
  | 0, _, j, hj => by omega
  | k + 1, hk, j, hj => by
    show (alongTo F l st (k + 1)).getD _ s0 = _
    rw [alongTo, getD_set, along_len]
    by_cases e : j = k
    · subst e
      rw [if_pos ⟨rfl, hin j (by omega)⟩]
      exact congrArg _ (along_off F l st _ j fun i hi h => by have := hnd i j (by omega) (by omega) h; omega)
    · rw [if_neg (fun hh => e (hnd k j (by omega) (by omega) hh.1).symm)]
      exact along_on F l st hin hnd k (by omega) j (by omega)
/-- What a path is. -/
structure PaV (p : Pl) (l : List Int) : Prop where
  two : 2 ≤ l.length
  at_ : ∀ k, k < l.length → ∃ x : Nat, l.getD k 0 = (x : Int) ∧ x < p.ms.length
  nd : ∀ i j, i < l.length → j < l.length → l.getD i 0 = l.getD j 0 → i = j
  arc : ∀ k, k + 1 < l.length → (⟨l.getD k 0, l.getD (k + 1) 0⟩ : Ar) ∈ p.arcs
  inner : ∀ k, 0 < k → k + 1 < l.length → cvB (kdA p (l.getD k 0)) = true
  fst : cvB (kdA p (l.getD 0 0)) = false
  lst : cvB (kdA p (l.getD (l.length - 1) 0)) = false
  pit : kpB (kdA p (l.getD 0 0)) = true → kn (kdA p (l.getD 0 0)) = 1
  spt : kpB (kdA p (l.getD (l.length - 1) 0)) = true → kn (kdA p (l.getD (l.length - 1) 0)) = 1
theorem bg_cv {s : ByteArray} (h : bgB s = true) : cvB s = false ∧ (kpB s = true → kn s = 1) := by
  unfold bgB at h
  simp only [Bool.or_eq_true, decide_eq_true_eq] at h
  unfold cvB kpB
  refine ⟨decide_eq_false (by omega), fun hk => ?_⟩
  simp only [Bool.and_eq_true, decide_eq_true_eq] at hk
  omega
theorem en_cv {s : ByteArray} (h : enB s = true) : cvB s = false ∧ (kpB s = true → kn s = 1) := by
  unfold enB at h
  simp only [Bool.or_eq_true, decide_eq_true_eq] at h
  unfold cvB kpB
  refine ⟨decide_eq_false (by omega), fun hk => ?_⟩
  simp only [Bool.and_eq_true, decide_eq_true_eq] at hk
  omega
theorem getD_mem {l : List Int} {k : Nat} (h : k < l.length) : l.getD k 0 ∈ l := by
  rw [List.getD_eq_getElem?_getD, List.getElem?_eq_getElem h]; exact List.getElem_mem h
theorem mem_getD {l : List Int} {x : Int} (h : x ∈ l) : ∃ k, k < l.length ∧ l.getD k 0 = x := by
  obtain ⟨k, hk, rfl⟩ := List.mem_iff_getElem.1 h
  exact ⟨k, hk, by rw [List.getD_eq_getElem?_getD, List.getElem?_eq_getElem hk]; rfl⟩
theorem PaV.of {p : Pl} {l : List Int} (h : pathE p l = 0) : PaV p l := by
  obtain ⟨hin, hp⟩ := pathE_ok h
  obtain ⟨h1, h2, h3, h4, h5⟩ := (pathB_iff p l).1 hp
  have hk : ∀ k, k < l.length → 0 < k → (k + 1 = l.length ∨ cvB (kdA p (l.getD k 0)) = true) ∧ (⟨l.getD (k - 1) 0, l.getD k 0⟩ : Ar) ∈ p.arcs := fun k hk h0 => by
    have := h5 k hk
    unfold okK at this
    simp only [Bool.or_eq_true, Bool.and_eq_true, decide_eq_true_eq] at this
    rcases this with h | h
    · omega
    · exact h
  refine ⟨h1, fun k hk => inN_nat (hin _ (getD_mem hk)), fun i j hi hj e => ?_, fun k hk1 => ?_, fun k h0 hk1 => ?_, (bg_cv h2).1, (en_cv h3).1, (bg_cv h2).2, (en_cv h3).2⟩
  · rw [List.getD_eq_getElem?_getD, List.getElem?_eq_getElem hi, List.getD_eq_getElem?_getD, List.getElem?_eq_getElem hj] at e
    have h6 := List.pairwise_iff_getElem.1 (List.nodup_iff_pairwise_ne.1 h4)
    rcases Nat.lt_trichotomy i j with h | h | h
    · exact absurd e (h6 i j hi hj h)
    · exact h
    · exact absurd e.symm (h6 j i hj hi h)
  · have := (hk (k + 1) hk1 (by omega)).2
    rwa [Nat.add_sub_cancel] at this
  · rcases (hk k (by omega) h0).1 with h | h
    · omega
    · exact h
theorem PaV.nat {p : Pl} {l : List Int} (h : PaV p l) {k : Nat} (hk : k < l.length) : l.getD k 0 = ((l.getD k 0).toNat : Int) ∧ (l.getD k 0).toNat < p.ms.length := by
  obtain ⟨x, e, hx⟩ := h.at_ k hk
  rw [e]; simp; exact hx
theorem PaV.ndN {p : Pl} {l : List Int} (h : PaV p l) (i j : Nat) (hi : i < l.length) (hj : j < l.length) (e : (l.getD i 0).toNat = (l.getD j 0).toNat) : i = j :=
  h.nd i j hi hj (by rw [(h.nat hi).1, (h.nat hj).1, e])
/-- A machine is on the path, or not. -/
theorem PaV.cases {p : Pl} {l : List Int} (_ : PaV p l) (x : Nat) : (∃ k, k < l.length ∧ (l.getD k 0).toNat = x) ∨ ∀ k, k < l.length → (l.getD k 0).toNat ≠ x := by
  by_cases h : ∃ k, k < l.length ∧ (l.getD k 0).toNat = x
  · exact .inl h
  · exact .inr fun k hk e => h ⟨k, hk, e⟩
theorem startL_ok {p : Pl} {st : List Sx} {g : ByteArray} : ∀ {r : List Int} {k : Nat}, startL p st g k r = 0 → ∀ i (h : i < r.length), startK p st g (k + i) r[i] = 0
  | [], _, _ => fun i hi => absurd hi (by simp)
  | a :: r, k, h => by
    unfold startL at h
    split at h
    · rename_i h1; exact absurd h h1
    · rename_i h1
      intro i hi
      cases i with
      | zero => simpa using h1
      | succ i =>
        have := startL_ok h i (by simpa using hi)
        simpa [Nat.add_assoc, Nat.add_comm 1 i] using this
theorem startL_zero {p : Pl} {st : List Sx} {g : ByteArray} : ∀ {r : List Int} {k : Nat}, (∀ i (h : i < r.length), startK p st g (k + i) r[i] = 0) → startL p st g k r = 0
  | [], _, _ => rfl
  | a :: r, k, h => by
    unfold startL
    have h0 := h 0 (by simp)
    simp only [Nat.add_zero, List.getElem_cons_zero] at h0
    rw [if_neg (by rw [h0]; simp)]
    refine startL_zero fun i hi => ?_
    have := h (i + 1) (by simpa using hi)
    simpa [Nat.add_assoc, Nat.add_comm 1 i] using this
/-- What a start finds at a place of its path. -/
structure StK (p : Pl) (st : List Sx) (g : ByteArray) (k : Nat) (m : Nat) : Prop where
  run : (sAt st m).runs = false
  fd : (sAt st m).feeds < 0
  fed : ∀ x : Nat, x < st.length → (sAt st x).feeds ≠ (m : Int)
  emp : k = 0 → kn (kdA p m) = 1 → (sAt st m).grain.toList.isEmpty = false
  gr : (sAt st m).grain.toList.isEmpty = true ∨ (sAt st m).grain.toList = g.toList
theorem fed_iff {st : List Sx} (m : Int) : st.any (fun s => s.feeds == m) = true ↔ ∃ x : Nat, x < st.length ∧ (sAt st x).feeds = m := by
  rw [List.any_eq_true]
  constructor
  · rintro ⟨s, hs, he⟩
    obtain ⟨k, hk, rfl⟩ := List.mem_iff_getElem.1 hs
    exact ⟨k, hk, by rw [sAt, stGet hk]; exact eq_of_beq he⟩
  · rintro ⟨k, hk, he⟩
    rw [sAt, stGet hk] at he
    exact ⟨st[k], List.getElem_mem hk, beq_iff_eq.2 he⟩
theorem startK_iff {p : Pl} {st : List Sx} {g : ByteArray} {k m : Nat} : startK p st g k (m : Int) = 0 ↔ StK p st g k m := by
  have hu : startK p st g k (m : Int) = if ((sAt st m).runs || decide (0 ≤ (sAt st m).feeds) || st.any (fun s => s.feeds == (m : Int))) = true then 26
    else if (decide (k = 0) && decide (kn (kdA p m) = 1) && (sAt st m).grain.toList.isEmpty) = true then 13
    else if (!(sAt st m).grain.toList.isEmpty && !((sAt st m).grain.toList == g.toList)) = true then 16 else 0 := rfl
  rw [hu]
  constructor
  · intro h
    split at h
    · cases h
    · rename_i h1
      split at h
      · cases h
      · rename_i h2
        split at h
        · cases h
        · rename_i h3
          simp only [Bool.or_eq_true, not_or, Bool.not_eq_true, decide_eq_true_eq] at h1
          obtain ⟨⟨a, b⟩, c⟩ := h1
          refine ⟨a, by omega, fun x hx e => ?_, fun h0 hk => ?_, ?_⟩
          · rw [(fed_iff (m : Int)).2 ⟨x, hx, e⟩] at c; cases c
          · rw [decide_eq_true h0, decide_eq_true hk] at h2
            simpa using h2
          · cases hq : (sAt st m).grain.toList.isEmpty with
            | true => exact .inl rfl
            | false =>
              rw [hq] at h3
              right; simpa using h3
  · rintro ⟨a, b, c, d, e⟩
    rw [if_neg, if_neg, if_neg]
    · simp only [Bool.and_eq_true, Bool.not_eq_true', not_and, Bool.not_eq_false]
      intro h
      rcases e with e | e
      · rw [h] at e; cases e
      · rw [e]; simp
    · simp only [Bool.and_eq_true, decide_eq_true_eq]
      rintro ⟨⟨h1, h2⟩, h3⟩
      rw [d h1 h2] at h3; cases h3
    · simp only [Bool.or_eq_true, decide_eq_true_eq, not_or, Bool.not_eq_true]
      refine ⟨⟨a, by omega⟩, ?_⟩
      cases hq : st.any (fun s => s.feeds == (m : Int)) with
      | false => rfl
      | true =>
        obtain ⟨x, hx, he⟩ := (fed_iff (m : Int)).1 hq
        exact absurd he (c x hx)
theorem startL_iff {p : Pl} {st : List Sx} {g : ByteArray} {l : List Int} (hl : PaV p l) : startL p st g 0 l = 0 ↔ ∀ k, k < l.length → StK p st g k (l.getD k 0).toNat := by
  have e : ∀ k (hk : k < l.length), l[k] = ((l.getD k 0).toNat : Int) := fun k hk => by
    rw [← (hl.nat hk).1, List.getD_eq_getElem?_getD, List.getElem?_eq_getElem hk]; rfl
  constructor
  · intro h k hk
    have := startL_ok h k hk
    rw [Nat.zero_add, e k hk] at this
    exact startK_iff.1 this
  · intro h
    refine startL_zero fun k hk => ?_
    rw [Nat.zero_add, e k hk]
    exact startK_iff.2 (h k hk)
theorem name_ne {s : ByteArray} (h : isName s = true) : s.toList.isEmpty = false := by
  unfold isName at h
  simp only [Bool.and_eq_true, decide_eq_true_eq] at h
  cases hq : s.toList.isEmpty with
  | false => rfl
  | true =>
    have h1 := List.isEmpty_iff.1 hq
    have h2 : s.toList.length = s.size := by simp [ByteArray.toList_eq]
    rw [h1] at h2
    simp at h2; omega
end Go.Proofs.YtahpdkkpnkhnhaaGreatDoor
