/- Lemmas on the way to the law PathStates (part 4): Mc Md Re -/
import Derived.Test.YtahpdkkpnkhnhaaGreatDoorPathStatesP03
import Derived.Test.YtahpdkkpnkhnhaaGreatDoorLib02
set_option linter.unusedVariables false
set_option linter.unusedSimpArgs false

/- Walks: Fault of the reference. -/
namespace Go.Proofs.YtahpdkkpnkhnhaaGreatDoor
open Go Go.Proofs Go.RowKit Go.Shelf
def offX (s : Sx) : Sx := ⟨false, s.feeds, s.grain⟩
def offAt (L : List Sx) (m : Int) : List Sx := L.set m.toNat (offX (L.getD m.toNat s0))
def offL (st : List Sx) (l : List Int) : List Sx := l.foldl offAt st
theorem offAt_len (L : List Sx) (m : Int) : (offAt L m).length = L.length := List.length_set
theorem offL_len : ∀ (l : List Int) (st : List Sx), (offL st l).length = st.length
  | [], _ => rfl
  | m :: l, st => (offL_len l (offAt st m)).trans (offAt_len st m)
theorem offL_snoc (st : List Sx) (l : List Int) (m : Int) : offL st (l ++ [m]) = offAt (offL st l) m := by unfold offL; rw [List.foldl_append]; rfl
theorem offAt_comm (L : List Sx) (a b : Int) : offAt (offAt L a) b = offAt (offAt L b) a := by
  unfold offAt
  by_cases h : a.toNat = b.toNat
  · rw [h]
  · rw [getD_set, getD_set, if_neg (fun hh => h hh.1), if_neg (fun hh => h hh.1.symm), List.set_comm _ _ h]
theorem offL_at : ∀ (l : List Int) (st : List Sx) (x : Int), offL (offAt st x) l = offAt (offL st l) x
  | [], _, _ => rfl
  | m :: l, st, x => by
    show offL (offAt (offAt st x) m) l = offAt (offL (offAt st m) l) x
    rw [offAt_comm, offL_at l]
set_option maxRecDepth 100000 in
set_option maxHeartbeats 1000000 in
theorem fault43 (w : World) (u : Value) (st : List Sx) (x : Nat) (hu : Sl Sx.enc 3 w w.heap.size u st) (h1000 : st.length ≤ 1000000) (hx : x < st.length) (hfd : ∀ s ∈ st, s.feeds < 0 ∨ inN st.length s.feeds = true) : Calls Tryz.prog 43 #[u, .int .i64 x] w (StatePost w (offL st (upL st x st.length ++ [(x : Int)]))) := by
  have HUP := Lib.hid (fun (w1 : World) (hb : Below w.heap.size w w1) => upstream41 w1 u st x (hu.later hb) h1000 hx hfd)
  obtain ⟨a3, n3, rfl, hl3, hA3⟩ := hu
  obtain ⟨b3, off3, e3, hbb3, hcells3⟩ := hA3 (by omega)
  obtain ⟨q3, hq3⟩ : ∃ q, (⟨b3, off3, none⟩ : Addr) = q := ⟨_, rfl⟩
  rw [hq3] at e3
  subst e3
  clear hA3 hfd
  obtain ⟨h31, h32⟩ := hl3
  obtain ⟨Q, hQ⟩ : ∃ Q, StatePost w (offL st (upL st x st.length ++ [(x : Int)])) = Q := ⟨_, rfl⟩
  rw [hQ]
  have HQ : Hid (∀ (v : Value) (w' : World), Own Sx.enc 3 100 w' w.heap.size v (offL st (upL st x st.length ++ [(x : Int)])) → Below w.heap.size w w' → Q (.returned v) w') := Lib.hid (fun v w' h1 h2 => by rw [← hQ]; exact ⟨v, rfl, h1, h2⟩)
  clear hQ
  have HBa := Lib.hid ((Below.refl w.heap.size w).alloc (Nat.le_refl _) (.cells #[] 100))
  have HAT := Lib.hid (show ∀ i (h : i < st.length), ∀ j u, (Sx.enc st[i])[j]? = some u → (w.alloc (.cells #[] 100)).cell? (q3.add (i * 3 + j)) = some u from by
    intro i h j u hu
    subst hq3
    have h1 := ((hcells3 i h).below HBa.out hbb3) j u hu
    rw [Addr.add_lit, ← Nat.add_assoc]
    exact h1)
  have HWL := Lib.hid (Own.lit (l := []) Sx.enc_len 100 w #[] 0 w.heap.size rfl rfl (by simp) (Nat.le_refl _))
  have hsl : st.length ≤ 1000000000 := by omega
  clear hcells3 hq3 hbb3
  have HUI := Lib.hid (show ∀ y ∈ upL st x st.length, ∃ z : Nat, y = (z : Int) ∧ z < st.length from fun y hy => by
    unfold upL at hy
    simp only [List.mem_map, List.mem_filter, List.mem_range] at hy
    obtain ⟨z, ⟨hz, _⟩, rfl⟩ := hy
    exact ⟨z, rfl, hz⟩)
  have HUL := Lib.hid (upL_len st x st.length)
  generalize upL st x st.length = U at *
  go_enter Tryz.func43, Tryz.ntmps43
  go_wp2_with (at_builtin; refine wpList_cat Sx.enc 3 32 39 100 _ Tryz.underlying39 infoSx rfl (by decide) (by decide) Sx.enc_len Sx.enc_one [] st w.heap.size (w.alloc (.cells #[] 100)) (.slice (some ⟨w.heap.size, 0, none⟩) 0 0) HWL.out (by simp) (by simp; omega) q3 n3 HAT.out rfl _ _ rfl rfl rfl ?_; intro v' w2 hown' hg')
  have hown2 : Own Sx.enc 3 100 w2 w.heap.size v' st := by simpa using hown'
  have HB2 := Lib.hid (((Below.refl w.heap.size w).alloc (Nat.le_refl _) (.cells #[] 100)).grown hg' (by simp) fun j hj => by
    have : w.heap.size = j := Option.some.inj hj
    omega)
  obtain ⟨g, cap, hvv, hg1, hg2⟩ := hown2.form (by omega)
  subst hvv
  have HO2 := Lib.hid hown2
  clear hown' hown2 hg' HWL HAT HBa
  obtain ⟨sn, hsn⟩ : ∃ n, st.length = n := ⟨_, rfl⟩
  rw [hsn] at HUP HO2 HUI HUL hx h1000 h31 h32 hsl ⊢
  have HSN := Lib.hid (fun l => (offL_len l st).trans hsn)
  clear hsn
  refine (HUP.out _ HB2.out).mono ?_
  rintro e w3 ⟨v, rfl, hov, hb3⟩
  have HB3 := Lib.hid (HB2.out.trans (hb3.mono HB2.out.size))
  have HO3 := Lib.hid (HO2.out.later hb3)
  have hg3 : w.heap.size ≤ g ∧ g < w2.heap.size := HO2.out.ltN
  obtain ⟨av, cv, e⟩ := hov.shape
  subst e
  obtain ⟨un, hun⟩ : ∃ n, U.length = n := ⟨_, rfl⟩
  rw [hun] at hov HUL ⊢
  have HUN := Lib.hid hun
  have hul := HUL.out
  have HOV := Lib.hid hov
  clear hb3 hov hun HO2 HB2
  go_wp2_with fail
  go_loopw [7] (fun i wr => ∃ k : Nat, k ≤ un ∧ i = .int .i64 k ∧ Below w.heap.size w wr ∧ Own Sx.enc 3 100 wr w.heap.size (.slice (some ⟨g, 0, none⟩) sn cap) (offL st (U.take k)) ∧ Own encI 1 3 wr w2.heap.size (.slice av un cv) U) (fun i _ => un - (intOf i).toNat)
  case atStart => exact ⟨0, by omega, rfl, HB3.out, HO3.out, HOV.out⟩
  case round =>
    clear HB3 HO3 HOV
    obtain ⟨k, hk, rfl, hbe, ho, hov⟩ := hrel
    have HBE := Lib.hid hbe
    have HO := Lib.hid ho
    have HOV := Lib.hid hov
    clear hbe ho hov
    by_cases hlt : k < un
    rotate_left
    · obtain rfl : un = k := by omega
      have HTK := Lib.hid (show U.take un = U from by rw [← HUN.out]; exact List.take_length)
      rw [HTK.out] at HO
      have HLL := Lib.hid (HSN.out U)
      have HFS := Lib.hid (offL_snoc st U x)
      have HSE := Lib.hid (set_self (offL st U) x (by rw [HLL.out]; exact hx))
      have HFA := Lib.hid (show offAt (offL st U) (x : Int) = (offL st U).set x (offX ((offL st U).getD x s0)) from rfl)
      generalize offL st U = L at *
      rw [← HSE.out] at HO
      generalize L.getD x s0 = sx at *
      obtain ⟨rn, fd, gr⟩ := sx
      have o0 := (HO.out.atS HLL.out Sx.enc_len hx).c3.1
      have ofz := HO.out.frozenS HLL.out
      have oz := HO.out.ltN.2
      have hof := HO.out.setS HLL.out Sx.enc_len hx 0 (by omega) (.bool false) ⟨false, fd, gr⟩ rfl
      have hbf := HBE.out.setCell (p := ⟨g, x * 3 + 0, none⟩) (by dsimp only; omega) (.bool false)
      simp only [Nat.add_zero] at hof hbf
      have HOF := Lib.hid hof
      have HBF := Lib.hid hbf
      clear hof hbf
      go_wp2_with fail
      refine HQ.out _ _ ?_ HBF.out
      rw [HFS.out, HFA.out]
      exact HOF.out
    have hkU : k < U.length := by rw [HUN.out]; exact hlt
    obtain ⟨y, hy, hyn⟩ := HUI.out U[k] (List.getElem_mem hkU)
    obtain ⟨gu, cu, hvv, hgu, hguz⟩ := HOV.out.form (by omega)
    rw [HUN.out] at hvv
    injection hvv with hv1 hv2 hv3
    subst hv1 hv3
    have u0 := (HOV.out.atN HUN.out encI_len k hkU).c1
    rw [Nat.mul_one, hy] at u0
    have HLL := Lib.hid (HSN.out (U.take k))
    have HFS := Lib.hid (show offL st (U.take (k + 1)) = (offL st (U.take k)).set y (offX ((offL st (U.take k)).getD y s0)) by
      rw [List.take_succ_eq_append_getElem hkU, hy, offL_snoc]; rfl)
    have HSE := Lib.hid (set_self (offL st (U.take k)) y (by rw [HLL.out]; exact hyn))
    generalize offL st (U.take k) = L at *
    rw [← HSE.out] at HO
    generalize L.getD y s0 = sx at *
    obtain ⟨rn, fd, gr⟩ := sx
    have o0 := (HO.out.atS HLL.out Sx.enc_len hyn).c3.1
    have ofz := HO.out.frozenS HLL.out
    have oz := HO.out.ltN.2
    have hof := HO.out.setS HLL.out Sx.enc_len hyn 0 (by omega) (.bool false) ⟨false, fd, gr⟩ rfl
    have hbf := HBE.out.setCell (p := ⟨g, y * 3 + 0, none⟩) (by dsimp only; omega) (.bool false)
    have hvf := HOV.out.below (a := ⟨g, y * 3 + 0, none⟩) (.bool false) (by dsimp only; omega)
    simp only [Nat.add_zero] at hof hbf hvf
    have HOF := Lib.hid hof
    have HBF := Lib.hid hbf
    have HVF := Lib.hid hvf
    clear hof hbf hvf hy hkU hv2
    go_wp2_with fail
    go_roundw
    case rel => exact ⟨k + 1, by omega, by go_num, HBF.out, by rw [HFS.out]; exact HOF.out, HVF.out⟩
    case measure => simp [intOf]; omega
end Go.Proofs.YtahpdkkpnkhnhaaGreatDoor

/- Walks: Fault. -/
namespace Go.Proofs.YtahpdkkpnkhnhaaGreatDoor
open Go Go.Proofs Go.RowKit Go.Shelf
def faultE (p : Pl) (st : List Sx) (mc : Int) : Int := if ckState p st ≠ 0 then ckState p st else if inN p.ms.length mc then (if cvB (kdA p mc) then 0 else 20) else 10
set_option maxRecDepth 100000 in
set_option maxHeartbeats 1000000 in
theorem fault39 (w : World) (v1 v2 u : Value) (p : Pl) (st : List Sx) (mc : Int) (hw : WdR w) (hv : PlR w w.heap.size v1 v2 p) (hu : Sl Sx.enc 3 w w.heap.size u st) (hs : SzR st) : Calls Tryz.prog 39 #[.agg #[v1, v2], u, .int .i64 mc] w (StE w (faultE p st mc) (offL st (upL st mc st.length ++ [mc]))) := by
  have HP := Lib.hid (fun (w1 : World) (hb : Below w.heap.size w w1) => checkState35 w1 _ _ u p st (hw.later hb) (hv.later hb) (hu.later hb) hs)
  have HUP := Lib.hid (fun (w1 : World) (hb : Below w.heap.size w w1) => upstream108 w1 u st mc (hu.later hb))
  have HCV := Lib.hid (fun s t (w1 : World) (hb : Below w.heap.size w w1) => conveys84 s t w1 (hw.later hb))
  have HCL := Lib.hid (fun (w1 : World) (hb : Below w.heap.size w w1) => clone95 w1 u st (hu.later hb))
  have HPV := Lib.hid hv
  obtain ⟨a1, n1, a2, n2, rfl, rfl⟩ := hv.agg
  obtain ⟨a3, n3, rfl, _, _⟩ := id hu
  clear hw hv hu hs
  have HB := Lib.hid ((Below.refl w.heap.size w).alloc (Nat.le_refl _) (.cells #[.slice a1 p.ms.length n1, .slice a2 p.arcs.length n2] 25))
  have HX := Lib.hid (Box.new w #[.slice a1 p.ms.length n1, .slice a2 p.arcs.length n2] 25)
  have HOK := Lib.hid (fun h : ckState p st = 0 => ckState_ok h)
  obtain ⟨E, hE⟩ : ∃ E, faultE p st mc = E := ⟨_, rfl⟩
  rw [hE]
  unfold faultE at hE
  have HE := Lib.hid hE
  clear hE
  obtain ⟨cp, hcp⟩ : ∃ c, ckState p st = c := ⟨_, rfl⟩
  rw [hcp] at HP HE HOK
  clear hcp
  obtain ⟨n, hn⟩ : ∃ n, p.ms.length = n := ⟨_, rfl⟩
  obtain ⟨m, hm⟩ : ∃ m, p.arcs.length = m := ⟨_, rfl⟩
  obtain ⟨sn, hsn⟩ : ∃ m, st.length = m := ⟨_, rfl⟩
  rw [hn] at HB HX HP HE HPV ⊢
  rw [hm] at HB HX HP HPV ⊢
  rw [hsn] at HP HUP HCL ⊢
  have HN := Lib.hid hn
  have HSN := Lib.hid hsn
  clear hn hm hsn
  obtain ⟨Q, hQ⟩ : ∃ Q, StE w E (offL st (upL st mc sn ++ [mc])) = Q := ⟨_, rfl⟩
  rw [hQ]
  have HQ := Lib.hid hQ
  clear hQ
  go_enter Tryz.func39, Tryz.ntmps39
  go_wp2_with fail
  refine (HP.out _ HB.out).mono ?_
  rintro e w2 ⟨rfl, hb2⟩
  have HB2 := Lib.hid (HB.out.trans (hb2.mono HB.out.size))
  have HX2 := Lib.hid (HX.out.later hb2)
  obtain ⟨x0, x1, xf, xz⟩ := HX2.out.v2
  clear hb2
  by_cases hc0 : cp = 0
  rotate_left
  · have k0 : (cp != 0) = true := by simpa using hc0
    rw [if_pos hc0] at HE
    have HC0 := Lib.hid hc0
    clear hc0
    go_wp2_with fail
    rw [← HQ.out, ← HE.out]
    exact StE.no HC0.out HB2.out
  subst hc0
  rw [if_neg (by simp)] at HE
  obtain ⟨hok1, hok2, _, _⟩ := HOK.out rfl
  have HN64 := Lib.hid (show n ≤ 64 by rw [← HN.out]; exact hok1.le)
  have HSEQ := Lib.hid (show sn = n by rw [← HSN.out, hok2, HN.out])
  have hs64 : sn ≤ 64 := by have := HN64.out; have := HSEQ.out; omega
  clear hok1 hok2 HOK
  have HB3 := Lib.hid (HB2.out.alloc HB2.out.size (.cells #[.int .i64 mc] 3))
  have HX3 := Lib.hid (HX2.out.alloc (.cells #[.int .i64 mc] 3))
  have HU79 := Lib.hid (unknown79 a1 n n1 (.slice a2 m n2) _ [mc] _ (Sl.lit encI_len [mc] w2 #[.int .i64 mc] 3 1 rfl rfl (by simp)))
  obtain ⟨qm, hqm⟩ : ∃ q, inN n mc = q := ⟨_, rfl⟩
  have HUE := Lib.hid (show unkE n [mc] = if qm then 0 else 10 by unfold unkE; simp only [List.any_cons, List.any_nil, Bool.or_false, hqm]; cases qm <;> rfl)
  rw [HUE.out] at HU79
  rw [hqm] at HE
  have HQM := Lib.hid hqm
  clear hqm
  go_wp2_with fail
  refine HU79.out.mono ?_
  rintro e w4 ⟨rfl, hb4⟩
  have HB4 := Lib.hid (HB3.out.trans (hb4.mono HB3.out.size))
  have HX4 := Lib.hid (HX3.out.later hb4)
  clear hb4 x0 x1 xf xz
  cases qm with
  | false =>
    have HE2 := Lib.hid (show E = 10 by rw [← HE.out]; rfl)
    go_wp2_with fail
    rw [← HQ.out, HE2.out]
    exact StE.no (by decide) HB4.out
  | true =>
  rw [if_pos rfl] at HE
  obtain ⟨x, hx0, hxn⟩ := inN_nat HQM.out
  subst hx0
  obtain ⟨⟨a1', c1', e1', hl1, hA1⟩, _⟩ := HPV.out
  simp only [Value.slice.injEq] at e1'
  obtain ⟨rfl, hnn, rfl⟩ := e1'
  have hxl : x < p.ms.length := by rw [HN.out]; exact hxn
  obtain ⟨b1, off1, rfl, hbb1, hcells1⟩ := hA1 (by omega)
  have HCM := Lib.hid (hcells1 x hxl)
  have HKD := Lib.hid (kdA_nat hxl)
  rw [HKD.out] at HE
  clear hA1 hcells1 hl1 hnn HKD
  generalize p.ms[x] = mx at *
  clear hxl
  obtain ⟨sm, tm⟩ := mx
  dsimp only at HE
  have HK84 := Lib.hid (HCV.out sm tm)
  obtain ⟨qc, hqc⟩ : ∃ q, cvB sm = q := ⟨_, rfl⟩
  rw [hqc] at HK84 HE
  clear hqc HCV
  obtain ⟨x0, x1, xf, xz⟩ := HX4.out.v2
  obtain ⟨m0, m1⟩ := (HCM.out.below HB4.out hbb1).c2
  have hb1z := Nat.lt_of_lt_of_le hbb1 HB4.out.size
  dsimp only at m0 m1
  go_wp2_with fail
  refine (HK84.out _ HB4.out).mono ?_
  rintro e w5 ⟨rfl, hb5⟩
  have HB5 := Lib.hid (HB4.out.trans (hb5.mono HB4.out.size))
  clear hb5 x0 x1 xf xz m0 m1 hb1z
  cases qc with
  | false =>
    have HE2 := Lib.hid (show E = 20 by rw [← HE.out]; rfl)
    go_wp2_with fail
    rw [← HQ.out, HE2.out]
    exact StE.no (by decide) HB5.out
  | true =>
  have HE2 := Lib.hid (show E = 0 by rw [← HE.out]; rfl)
  clear HE
  go_wp2_with fail
  refine (HCL.out _ HB5.out).mono ?_
  rintro e w6 ⟨v, rfl, hown, hb6⟩
  have HB6 := Lib.hid (HB5.out.trans (hb6.mono HB5.out.size))
  have hsx : x < sn := by rw [HSEQ.out]; exact hxn
  obtain ⟨g, cap, hvv, hg1, hg2⟩ := hown.form (by rw [HSN.out]; omega)
  rw [HSN.out] at hvv
  subst hvv
  have HLX := Lib.hid (fun l => (offL_len l st).trans HSN.out)
  have HSX := Lib.hid (set_self st x (by rw [HSN.out]; exact hsx))
  have HFA := Lib.hid (show offAt st (x : Int) = st.set x (offX (st.getD x s0)) from rfl)
  have hgw : w.heap.size ≤ g := Nat.le_trans HB5.out.size hg1
  have hown2 := hown
  rw [← HSX.out] at hown2
  generalize st.getD x s0 = sx at *
  obtain ⟨rn, fd, gr⟩ := sx
  have o0 := (hown2.atS HSN.out Sx.enc_len hsx).c3.1
  have ofz := hown2.frozenS HSN.out
  have oz := hown2.ltN.2
  have hof := hown2.setS HSN.out Sx.enc_len hsx 0 (by omega) (.bool false) ⟨false, fd, gr⟩ rfl
  have hbf := HB6.out.setCell (p := ⟨g, x * 3 + 0, none⟩) (by dsimp only; omega) (.bool false)
  simp only [Nat.add_zero] at hof hbf
  have HOF := Lib.hid (show Own Sx.enc 3 100 (w6.setCell ⟨g, x * 3, none⟩ (.bool false)) w.heap.size (.slice (some ⟨g, 0, none⟩) sn cap) (offAt st x) by rw [HFA.out]; exact hof.lower HB5.out.size)
  have HBF := Lib.hid hbf
  clear hof hbf hown hown2 hb6 hg1 hg2
  go_wp2_with fail
  clear o0 ofz oz
  refine (HUP.out _ HBF.out (by have := HN64.out; have := HSEQ.out; omega)).mono ?_
  rintro e w7 ⟨O, gO, rfl, ho, hol, hor, hb7⟩
  have HB7 := Lib.hid (HBF.out.trans (hb7.mono HBF.out.size))
  have HO7 := Lib.hid (HOF.out.later hb7)
  have hg7 := HOF.out.ltN.2
  have HOO := Lib.hid ho
  have HOL := Lib.hid hol
  have HOR := Lib.hid hor
  obtain ⟨BB, hBB⟩ : ∃ b, (w6.setCell ⟨g, x * 3, none⟩ (.bool false)).heap.size = b := ⟨_, rfl⟩
  rw [hBB] at HOO hg7
  clear hb7 ho hol hor hBB HOF HBF
  go_wp2_with fail
  go_loopw [43] (fun i wr => ∃ k : Nat, k ≤ sn ∧ i = .int .i64 k ∧ Below w.heap.size w wr ∧ Own Sx.enc 3 100 wr w.heap.size (.slice (some ⟨g, 0, none⟩) sn cap) (offL (offAt st x) (upL st x k)) ∧ Own encB 1 4 wr BB (.slice (some ⟨gO, 0, none⟩) sn sn) O) (fun i _ => sn - (intOf i).toNat)
  case atStart => exact ⟨0, by omega, rfl, HB7.out, HO7.out, HOO.out⟩
  case round =>
    clear HB7 HO7 HOO
    obtain ⟨k, hk, rfl, hbe, ho, hoo⟩ := hrel
    have HBE := Lib.hid hbe
    have HO := Lib.hid ho
    have HOO := Lib.hid hoo
    clear hbe ho hoo
    by_cases hlt : k < sn
    rotate_left
    · obtain rfl : sn = k := by omega
      go_wp2_with fail
      rw [← HQ.out, HE2.out]
      refine StE.yes ?_ HBE.out
      rw [offL_snoc, ← offL_at]
      exact HO.out
    have hkO : k < O.length := by rw [HOL.out]; exact hlt
    have hat := HOO.out.atN HOL.out encB_len k hkO
    obtain ⟨ok, hok⟩ : ∃ b, O[k] = b := ⟨_, rfl⟩
    rw [hok] at hat
    have o0 := hat.c1
    rw [Nat.mul_one] at o0
    have hgz2 := HOO.out.ltN.2
    have HUB := Lib.hid (upB_of HOR.out (show O[k]? = some ok by rw [List.getElem?_eq_getElem hkO, hok]))
    have HUS := Lib.hid (upL_succ st x k)
    rw [HUB.out] at HUS
    have HFS := Lib.hid (offL_snoc (offAt st x) (upL st x k) (k : Int))
    have HLL := Lib.hid ((offL_len (upL st x k) (offAt st x)).trans ((offAt_len st x).trans HSN.out))
    clear hat hok hkO HUB
    cases ok with
    | false =>
      go_wp2_with fail
      go_roundw
      case rel => exact ⟨k + 1, by omega, by go_num, HBE.out, by rw [HUS.out, if_neg (by simp)]; exact HO.out, HOO.out⟩
      case measure => simp [intOf]; omega
    | true =>
      have HFA2 := Lib.hid (show offAt (offL (offAt st x) (upL st x k)) (k : Int) = (offL (offAt st x) (upL st x k)).set k (offX ((offL (offAt st x) (upL st x k)).getD k s0)) from rfl)
      have HSE := Lib.hid (set_self (offL (offAt st x) (upL st x k)) k (by rw [HLL.out]; exact hlt))
      generalize offL (offAt st x) (upL st x k) = L at *
      rw [← HSE.out] at HO
      generalize L.getD k s0 = sy at *
      obtain ⟨ry, fy, gy⟩ := sy
      have p0 := (HO.out.atS HLL.out Sx.enc_len hlt).c3.1
      have pfz := HO.out.frozenS HLL.out
      have pz := HO.out.ltN.2
      have hof := HO.out.setS HLL.out Sx.enc_len hlt 0 (by omega) (.bool false) ⟨false, fy, gy⟩ rfl
      have hbf := HBE.out.setCell (p := ⟨g, k * 3 + 0, none⟩) (by dsimp only; omega) (.bool false)
      have hvf := HOO.out.below (a := ⟨g, k * 3 + 0, none⟩) (.bool false) (by dsimp only; omega)
      simp only [Nat.add_zero] at hof hbf hvf
      have HOF := Lib.hid hof
      have HBF := Lib.hid hbf
      have HVF := Lib.hid hvf
      clear hof hbf hvf
      go_wp2_with fail
      go_roundw
      case rel => exact ⟨k + 1, by omega, by go_num, HBF.out, by rw [HUS.out, if_pos rfl, HFS.out, HFA2.out]; exact HOF.out, HVF.out⟩
      case measure => simp [intOf]; omega
end Go.Proofs.YtahpdkkpnkhnhaaGreatDoor

/- A region that draws its order, of whose head operations one calls a function that makes memory of its own; the others are quiet in every world that has grown. -/
namespace Go
open Go.RowKit
section
/-- The state while head operations come up in whatever order. -/
structure GrowFlow (ops : Array Oper) (n b : Nat) (ob : Oper) (W : World) (a0 A : Act) (D : Value → World → Prop) (listed : Array Bool) (a : Act) (w : World) (v : Value) : Prop where
  inv : HeadInv .any ops n listed
  later : Below W.heap.size W w
  size : a.tmps.size = a0.tmps.size
  defers : a.defers = a0.defers
  slot : ∀ j o t, j < n → ops[j]? = some o → o.dst = some t → j ≠ b → a.tmps[t]? = if listed.getD j false = true then A.tmps[t]? else a0.tmps[t]?
  slotb : ∀ t, ob.dst = some t → a.tmps[t]? = if listed.getD b false = true then a0.tmps[t]?.map (fun _ => v) else a0.tmps[t]?
  other : ∀ t, (∀ j o, j < n → ops[j]? = some o → o.dst ≠ some t) → a.tmps[t]? = a0.tmps[t]?
  box : listed.getD b false = true → D v w
variable {P : Program} {l : List Oper} {n b : Nat} {ob : Oper} {W : World} {a0 A : Act} {D : Value → World → Prop} {Q : Exit → Act → World → Prop}
theorem growflow_run (hB : Region.flowB l.toArray n b = true) (hob : l[b]? = some ob)
    (hq : ∀ Y : Later W, wpQuiet P l.toArray (fun w' => ∃ X : Later2 Y, w' = X.w) (fun a' => a' = A) (headsOf l n b) a0)
    (hb : ∀ w, Below W.heap.size W w → ∃ fn args, (execOp A.eval ob).run P w = .ok (.enter fn args) w ∧ Calls P fn args w fun e w' => ∃ v, e = .returned v ∧ D v w' ∧ Below w.heap.size w w')
    (hBp : ∀ v w w', D v w → Below w.heap.size w w' → D v w')
    (ht : ∀ v w, Below W.heap.size W w → D v w → wpList P l.toArray Q (l.drop n) (A.put ob.dst v) w) :
    ∀ (f : Nat) (U : List Nat) (listed : Array Bool) (a : Act) (w : World) (vb : Value), U.length = f → U.Nodup → (∀ i, i ∈ U ↔ i < n ∧ listed.getD i false = false) →
      GrowFlow l.toArray n b ob W a0 A D listed a w vb → wpAny P .any l.toArray Q (f + (l.toArray.size - n)) listed a w := by
  simp only [Region.flowB, Bool.and_eq_true, decide_eq_true_eq, List.all_eq_true, List.mem_range] at hB
  obtain ⟨⟨⟨⟨⟨⟨⟨⟨⟨hsel, hn⟩, hbn⟩, hsink⟩, hchain⟩, hseq⟩, hedge⟩, hpair⟩, hguard⟩, hblind⟩ := hB
  have hn' : n ≤ l.length := by have h := hn; rw [List.size_toArray] at h; omega
  have hsz : l.toArray.size = l.length := by simp
  have hget : ∀ i : Nat, l.toArray[i]? = l[i]? := fun i => by simp
  have hselect := Region.noSelect_spec hsel
  have hpw : (headsOf l n b).Pairwise (fun o o' => ∀ t, o.dst = some t → o'.dst ≠ some t) := by
    rw [List.pairwise_iff_getElem]
    intro i j hi hj hij t ht
    obtain ⟨i', h1, h2, h3, h4⟩ := headsOf_from hbn hn' (List.getElem?_eq_getElem hi)
    obtain ⟨j', k1, k2, k3, k4⟩ := headsOf_from hbn hn' (List.getElem?_eq_getElem hj)
    exact Region.flowPair_dst (hpair i' h1 j' k1) (by rw [hget]; exact h3) (by rw [hget]; exact k3) (fun e => by subst e; omega) ht
  have hA := quiet_text _ _ (hq ⟨W, Below.refl _ _⟩) hpw
  have hAo : ∀ t, (∀ j o, j < n → l.toArray[j]? = some o → j ≠ b → o.dst ≠ some t) → A.tmps[t]? = a0.tmps[t]? := fun t h => hA.1 t fun o ho => by
    obtain ⟨q, hq'⟩ := List.mem_iff_getElem?.1 ho
    obtain ⟨j, h1, h2, h3, _⟩ := headsOf_from hbn hn' hq'
    exact h j o h1 (by rw [hget]; exact h3) h2
  have hAs := hA.2.1
  have hAd := hA.2.2.1
  have hobA : l.toArray[b]? = some ob := by rw [hget]; exact hob
  intro f
  induction f with
  | zero =>
    intro U listed a w vb hU _ hUm hF
    obtain rfl : U = [] := List.eq_nil_of_length_eq_zero hU
    have hall : ∀ i, i < n → listed.getD i false = true := fun i hi => by
      cases h : listed.getD i false with
      | true => rfl
      | false => have := (hUm i).2 ⟨hi, h⟩; simp at this
    have hl : listed = Region.marked l.toArray.size n := by
      apply Array.ext_getElem?
      intro i
      by_cases hi : i < l.toArray.size
      · have hil : i < listed.size := by rw [hF.inv.size]; exact hi
        have e2 : (Region.marked l.toArray.size n)[i]? = some (decide (i < n)) := by
          rw [List.size_toArray] at hi
          unfold Region.marked
          simp [hi]
        rw [e2, Array.getElem?_eq_getElem hil]
        by_cases hin : i < n
        · have := hall i hin
          simp [hil] at this
          simp [this, hin]
        · have := hF.inv.tail i (by omega) hi
          simp [hil] at this
          simp [this, hin]
      · rw [Array.getElem?_eq_none (by rw [hF.inv.size]; omega), Array.getElem?_eq_none (by rw [List.size_toArray] at hi; unfold Region.marked; simp; omega)]
    have hbt := hall b hbn
    have ha : a = A.put ob.dst vb := by
      have htm : a.tmps = (A.put ob.dst vb).tmps := by
        apply Array.ext_getElem?
        intro t
        rw [put_get]
        by_cases hbd : ob.dst = some t
        · rw [if_pos hbd, hF.slotb t hbd, if_pos hbt]
          by_cases h : t < a0.tmps.size
          · rw [Array.getElem?_eq_getElem h, Array.getElem?_eq_getElem (by rw [hAs]; exact h)]; rfl
          · rw [Array.getElem?_eq_none (by omega), Array.getElem?_eq_none (by rw [hAs]; omega)] <;> rfl
        · rw [if_neg hbd]
          by_cases h : ∃ j o, j < n ∧ l.toArray[j]? = some o ∧ o.dst = some t
          · obtain ⟨j, o, h1, h2, h3⟩ := h
            have hjb : j ≠ b := fun e => by subst e; rw [hobA] at h2; cases h2; exact hbd h3
            rw [hF.slot j o t h1 h2 h3 hjb, if_pos (hall j h1)]
          · have h' : ∀ j o, j < n → l.toArray[j]? = some o → o.dst ≠ some t := fun j o h1 h2 h3 => h ⟨j, o, h1, h2, h3⟩
            rw [hF.other t h', hAo t fun j o h1 h2 _ => h' j o h1 h2]
      have hd : a.defers = (A.put ob.dst vb).defers := by rw [put_defers, hAd, hF.defers]
      cases a; simp only at htm hd; cases hX : A.put ob.dst vb; rw [hX] at htm hd; simp only at htm hd; rw [htm, hd]
    rw [ha]
    have hdl : (l.drop n).length = l.toArray.size - n := by simp
    have := wpAny_of_seq (md := .any) (Q' := Q) (ops := l.toArray) (l.drop n) n listed (A.put ob.dst vb) w (fun j => by simp [List.getElem?_drop]) (by rw [hdl, hl]; exact hseq) (ht vb w hF.later (hF.box hbt))
    rw [hdl] at this
    rwa [Nat.zero_add]
  | succ f ih =>
    intro U listed a w vb hU hnd hUm hF
    obtain ⟨i0, hi0, hleast⟩ := exists_leastM U (fun e => by rw [e] at hU; simp at hU)
    obtain ⟨hi0n, hi0u⟩ := (hUm i0).1 hi0
    have hin : ∀ i, i < n → i < listed.size := fun i hi => by rw [hF.inv.size]; omega
    have hready : i0 ∈ Region.ready .any l.toArray listed := by
      have hlt : i0 < l.toArray.size := by omega
      refine mem_ready.2 ⟨getD_in (hin _ hi0n) hi0u, l.toArray[i0], Array.getElem?_eq_getElem hlt, fun e he hbd => ?_⟩
      have h1 := hedge i0 hi0n
      rw [Array.getElem?_eq_getElem hlt] at h1
      simp only [Array.all_eq_true_iff_forall_mem] at h1
      have h2 := h1 e he
      simp only [hbd, Bool.not_true, Bool.false_or, decide_eq_true_eq] at h2
      cases h : listed.getD e.on false with
      | true => rfl
      | false =>
        have := hleast e.on ((hUm e.on).2 ⟨by omega, h⟩)
        omega
    rw [show f + 1 + (l.toArray.size - n) = (f + (l.toArray.size - n)) + 1 by omega]
    refine ⟨fun h => (by rw [h] at hready; cases hready), fun i hi => ?_⟩
    obtain ⟨hiu, o, ho, hdep⟩ := mem_ready.1 hi
    have hilt : i < n := Nat.lt_of_not_le fun h => tail_waits hsink hchain hn hF.inv _ i0 rfl hi0n (getD_in (hin _ hi0n) hi0u) i h hi
    have hiU : i ∈ U := (hUm i).2 ⟨hilt, getD_both hiu⟩
    have hinv := hF.inv.set hi hilt
    have hlist : ∀ j, (listed.setIfInBounds i true).getD j false = if j = i then true else listed.getD j false := fun j => by
      by_cases h : j = i
      · subst h; rw [if_pos rfl]; simp [hin j hilt]
      · rw [if_neg h, getD_set_ne false (Ne.symm h)]
    have hUm' : ∀ j, j ∈ U.erase i ↔ j < n ∧ (listed.setIfInBounds i true).getD j false = false := fun j => by
      rw [hnd.mem_erase_iff, hUm j, hlist j]
      by_cases h : j = i
      · simp [h]
      · simp [h]
    have hlen' : (U.erase i).length = f := by rw [List.length_erase_of_mem hiU]; omega
    have hnd' := hnd.erase i
    -- what an operation looks at is as in the end
    have hseen : ∀ t ∈ o.looksAt l.toArray, ∀ j oj, j < n → l.toArray[j]? = some oj → oj.dst = some t → i ≠ j ∧ j < i ∧ listed.getD j false = true := by
      intro t ht j oj hj hoj hd
      have hne : i ≠ j := fun e => by
        subst e
        rw [ho] at hoj; cases hoj
        exact Region.flowPair_self (hpair i hilt i hilt) ho hd ht
      have h1 := Region.flowPair_looks (hpair i hilt j hj) ho hoj hne hd ht
      obtain ⟨o', ho', e, he, hbd, hon⟩ := Region.waitsFor_spec h1.2
      rw [ho] at ho'; cases ho'
      have := hdep e he hbd
      rw [hon] at this
      exact ⟨hne, h1.1, this⟩
    by_cases hib : i = b
    · subst hib
      rw [hobA] at ho; cases ho
      have hg : ob.guard = none := by rw [hobA] at hguard; simpa using hguard
      obtain ⟨fn, args, hrun, hcall⟩ := hb w hF.later
      have hex : execOp a.eval ob = execOp A.eval ob := (seen_alike (ops := l.toArray) (fun cs bb => hselect i ob cs bb hobA) fun t htl => by
        by_cases h : ∃ j o, j < n ∧ l.toArray[j]? = some o ∧ o.dst = some t
        · obtain ⟨j, oj, h1, h2, h3⟩ := h
          obtain ⟨k1, k2, k3⟩ := hseen t htl j oj h1 h2 h3
          rw [hF.slot j oj t h1 h2 h3 (Ne.symm k1), if_pos k3]
        · have h' : ∀ j o, j < n → l.toArray[j]? = some o → o.dst ≠ some t := fun j o h1 h2 h3 => h ⟨j, o, h1, h2, h3⟩
          rw [hF.other t h', hAo t fun j o h1 h2 _ => h' j o h1 h2]).1
      unfold wpOp
      simp only [hobA]
      rw [if_pos (by simp [Region.wanted, hg])]
      refine .inl ?_
      unfold Oper.wp
      rw [hex, hrun, Oper.upon_enter]
      refine hcall.mono ?_
      rintro _ w' ⟨v', rfl, hbox, hbel⟩
      refine ih (U.erase i) _ _ _ v' hlen' hnd' hUm' ⟨hinv, hF.later.trans (hbel.mono hF.later.size), by rw [put_size, hF.size], by rw [put_defers, hF.defers], ?_, ?_, ?_, fun _ => hbox⟩
      · intro j oj t hj hoj hd hjb
        have hne : ob.dst ≠ some t := fun h => Region.flowPair_dst (hpair i hilt j hj) hobA hoj (Ne.symm hjb) h hd
        rw [put_get, if_neg hne, hF.slot j oj t hj hoj hd hjb, hlist j, if_neg hjb]
      · intro t hd
        rw [put_get, if_pos hd, hlist i, if_pos rfl, if_pos rfl, hF.slotb t hd, if_neg (by rw [getD_both hiu]; simp)]
      · intro t h
        rw [put_get, if_neg (h i ob hilt hobA), hF.other t h]
    · have hpos := headsOf_get hbn hn' hilt hib
      have hol : l[i]? = some o := by rw [← hget]; exact ho
      rw [hol] at hpos
      have hsplit : headsOf l n b = (headsOf l n b).take (posOf b i) ++ o :: (headsOf l n b).drop (posOf b i + 1) := by
        have hlt := (List.getElem?_eq_some_iff.1 hpos).1
        have e := (List.getElem?_eq_some_iff.1 hpos).2
        rw [← e, ← List.drop_eq_getElem_cons hlt, List.take_append_drop]
      obtain ⟨_, _, _, htext⟩ := quiet_text _ _ (hq ⟨w, hF.later⟩) hpw
      obtain ⟨ai, v, hy, t1, t2, t3⟩ := htext _ o _ hsplit
      have hal := seen_alike (ops := l.toArray) (o := o) (a := a) (a' := ai) (fun cs bb => hselect i o cs bb ho) fun t htl => by
        by_cases h : ∃ j o, j < n ∧ l.toArray[j]? = some o ∧ o.dst = some t
        · obtain ⟨j, oj, h1, h2, h3⟩ := h
          obtain ⟨k1, k2, k3⟩ := hseen t htl j oj h1 h2 h3
          by_cases hjb : j = b
          · -- nobody else looks at b's yield
            subst hjb
            have h4 := hblind i hilt
            simp only [Bool.or_eq_true, beq_iff_eq, hib, false_or] at h4
            exact absurd htl (Region.blindTo_spec h4 ho h2 h3)
          · rw [hF.slot j oj t h1 h2 h3 hjb, if_pos k3]
            refine (t1 t ⟨oj, ?_, h3⟩).symm
            have hjp := headsOf_get hbn hn' h1 hjb
            rw [← hget, h2] at hjp
            refine List.mem_of_getElem? (i := posOf b j) ?_
            rw [List.getElem?_take, if_pos (by unfold posOf; split <;> split <;> omega)]
            exact hjp
        · have h' : ∀ j o, j < n → l.toArray[j]? = some o → o.dst ≠ some t := fun j o h1 h2 h3 => h ⟨j, o, h1, h2, h3⟩
          rw [hF.other t h']
          refine (t2 t fun p hp => ?_).symm
          obtain ⟨q, hq'⟩ := List.mem_iff_getElem?.1 (List.mem_of_mem_take hp)
          obtain ⟨j, h1, h2, h3, _⟩ := headsOf_from hbn hn' hq'
          exact h' j p h1 (by rw [hget]; exact h3)
      have hy' := hy.of_same hal.1 hal.2
      have hqo := hy'.qOp (K := fun a' => a' = a.put o.dst v) ho rfl
      refine wpOp_of_qOp ⟨⟨w, Below.refl _ _⟩, rfl⟩ ?_ hqo
      rintro a' w' ⟨X, rfl⟩ rfl
      have hX := X.h
      refine ih (U.erase i) _ _ _ vb hlen' hnd' hUm' ⟨hinv, hF.later.trans (hX.mono hF.later.size), by rw [put_size, hF.size], by rw [put_defers, hF.defers], ?_, ?_, ?_, ?_⟩
      · intro j oj t hj hoj hd hjb
        rw [put_get, hlist j]
        by_cases hji : j = i
        · subst hji
          rw [ho] at hoj; cases hoj
          rw [if_pos hd, if_pos rfl, if_pos rfl, hF.slot j o t hj ho hd hjb, if_neg (by rw [getD_both hiu]; simp), t3 t hd]
        · have hne : o.dst ≠ some t := fun h => Region.flowPair_dst (hpair i hilt j hj) ho hoj (Ne.symm hji) h hd
          rw [if_neg hne, if_neg hji, hF.slot j oj t hj hoj hd hjb]
      · intro t hd
        have hne : o.dst ≠ some t := fun h => Region.flowPair_dst (hpair i hilt b hbn) ho hobA hib h hd
        rw [put_get, if_neg hne, hF.slotb t hd, hlist b, if_neg (Ne.symm hib)]
      · intro t h
        rw [put_get, if_neg (h i o hilt ho), hF.other t h]
      · intro h
        rw [hlist b, if_neg (Ne.symm hib)] at h
        exact hBp vb w _ (hF.box h) hX
/-- The rule. -/
theorem wp_region_growflow {id : Nat} (n b : Nat) (ob : Oper) (D : Value → World → Prop) (hm : P.follows .mixedOrders = true) (hB : Region.flowB l.toArray n b = true) (hob : l[b]? = some ob)
    (hBp : ∀ v w w', D v w → Below w.heap.size w w' → D v w')
    (hh : ∃ A, (∀ Y : Later W, wpQuiet P l.toArray (fun w' => ∃ X : Later2 Y, w' = X.w) (fun a' => a' = A) (headsOf l n b) a0) ∧
      (∀ w, Below W.heap.size W w → ∃ fn args, (execOp A.eval ob).run P w = .ok (.enter fn args) w ∧ Calls P fn args w fun e w' => ∃ v, e = .returned v ∧ D v w' ∧ Below w.heap.size w w') ∧
        ∀ v w, Below W.heap.size W w → D v w → wpList P l.toArray Q (l.drop n) (A.put ob.dst v) w) :
    (Code.region id l.toArray true).wp P Q a0 W := by
  obtain ⟨A, hq, hb, ht⟩ := hh
  refine wp_region_any hm ?_
  have hB' := hB
  simp only [Region.flowB, Bool.and_eq_true, decide_eq_true_eq] at hB'
  have hn := hB'.1.1.1.1.1.1.1.1.2
  have inv0 : HeadInv .any l.toArray n (Array.replicate l.toArray.size false) :=
    ⟨by simp, fun j oj _ hl => (by rw [getD_replicate_false] at hl; cases hl), fun t _ ht => getD_in (by simpa using ht) (getD_replicate_false _ _)⟩
  have h := growflow_run (W := W) (a0 := a0) (A := A) (D := D) (Q := Q) hB hob hq hb hBp ht n (List.range n) (Array.replicate l.toArray.size false) a0 { W with drawn := W.drawn + 1 } undef (by simp) List.nodup_range (fun i => by rw [List.mem_range]; exact ⟨fun h => ⟨h, getD_replicate_false _ _⟩, fun h => h.1⟩)
    ⟨inv0, ⟨rfl, rfl, rfl, Nat.le_refl _, fun _ _ => rfl⟩, rfl, rfl, fun j o t _ _ _ _ => by rw [getD_replicate_false]; rfl, fun t _ => by rw [getD_replicate_false]; rfl, fun _ _ => rfl, fun h => by rw [getD_replicate_false] at h; cases h⟩
  rwa [show n + (l.toArray.size - n) = l.toArray.size by omega] at h
end
end Go
