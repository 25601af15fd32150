/- Lemmas on the way to the laws (part 34): Lc Ld Le -/
import Derived.Test.YtahpdkkpnkhnhaaGreatDoorLib33
set_option linter.unusedVariables false
set_option linter.unusedSimpArgs false

/- Walks: Resume of the reference. -/
namespace Go.Proofs.YtahpdkkpnkhnhaaGreatDoor
open Go Go.Proofs Go.RowKit Go.Shelf

/-- The status of a machine of a path that runs again. -/
def resumeV (p : Pl) (l : List Int) (k : Nat) (s : Sx) : Sx := ⟨cvB (kdA p (l.getD k 0)), s.feeds, s.grain⟩
def resumeTo (p : Pl) (l : List Int) (st : List Sx) : Nat → List Sx
  | 0 => st
  | k + 1 => (resumeTo p l st k).set (l.getD k 0).toNat (resumeV p l k ((resumeTo p l st k).getD (l.getD k 0).toNat s0))
theorem resumeTo_len (p : Pl) (l : List Int) (st : List Sx) (k : Nat) : (resumeTo p l st k).length = st.length := by
  induction k with
  | zero => rfl
  | succ k ih => rw [resumeTo, List.length_set, ih]
theorem resumeTo_succ (p : Pl) (l : List Int) (st : List Sx) (k x : Nat) (hk : l.getD k 0 = (x : Int)) : resumeTo p l st (k + 1) = (resumeTo p l st k).set x (resumeV p l k ((resumeTo p l st k).getD x s0)) := by
  rw [resumeTo, hk, Int.toNat_natCast]
set_option maxRecDepth 100000 in
set_option maxHeartbeats 1000000 in
theorem resume49 (w : World) (v1 v2 u y : Value) (p : Pl) (st : List Sx) (l : List Int) (hv : PlR w w.heap.size v1 v2 p) (hu : Sl Sx.enc 3 w w.heap.size u st) (hx : Sl encI 1 w w.heap.size y l) (hin : ∀ y ∈ l, inN p.ms.length y = true) (hln : st.length = p.ms.length) (hpos : 0 < p.ms.length) : Calls Tryz.prog 49 #[.agg #[v1, v2], u, y] w (StatePost w (resumeTo p l st l.length)) := by
  obtain ⟨⟨a1, n1, rfl, hl1, hA1⟩, ⟨a2, n2, rfl, hl2, hA2⟩⟩ := hv
  obtain ⟨a, c, rfl, hlen, hA⟩ := hx
  obtain ⟨a3, n3, rfl, hl3, hA3⟩ := hu
  obtain ⟨b3, off3, e3, hbb3, hcells3⟩ := hA3 (by omega)
  obtain ⟨q3, hq3⟩ : ∃ q, (⟨b3, off3, none⟩ : Addr) = q := ⟨_, rfl⟩
  rw [hq3] at e3
  subst e3
  have HA1 := Lib.hid hA1
  have HA := Lib.hid hA
  have HIN := Lib.hid hin
  clear hA1 hA2 hA hl2 hin hA3
  obtain ⟨h11, h12⟩ := hl1
  obtain ⟨hl, hlc⟩ := hlen
  obtain ⟨h31, h32⟩ := hl3
  have HB := Lib.hid ((Below.refl w.heap.size w).alloc (Nat.le_refl _) (.cells #[.slice a1 p.ms.length n1, .slice a2 p.arcs.length n2] 25))
  have HX := Lib.hid (Box.new w #[.slice a1 p.ms.length n1, .slice a2 p.arcs.length n2] 25)
  obtain ⟨n, hn⟩ : ∃ n, p.ms.length = n := ⟨_, rfl⟩
  obtain ⟨m, hm⟩ : ∃ m, p.arcs.length = m := ⟨_, rfl⟩
  obtain ⟨ln, hll⟩ : ∃ m, l.length = m := ⟨_, rfl⟩
  rw [hn] at HB HX h11 h12 HIN hln hpos ⊢
  rw [hm] at HB HX ⊢
  rw [hll] at hl hlc ⊢
  have HN := Lib.hid hn
  have HLN := Lib.hid hll
  have HST := Lib.hid (fun k => (resumeTo_len p l st k).trans hln)
  obtain ⟨Q, hQ⟩ : ∃ Q, StatePost w (resumeTo p l st ln) = Q := ⟨_, rfl⟩
  rw [hQ]
  have HQ : Hid (∀ (v : Value) (w' : World), Own Sx.enc 3 100 w' w.heap.size v (resumeTo p l st ln) → Below w.heap.size w w' → Q (.returned v) w') := Lib.hid (fun v w' h1 h2 => by rw [← hQ]; exact ⟨v, rfl, h1, h2⟩)
  clear hQ hn hm hll
  have HBa := Lib.hid ((Below.refl (w.alloc (.cells #[.slice a1 n n1, .slice a2 m n2] 25)).heap.size (w.alloc (.cells #[.slice a1 n n1, .slice a2 m n2] 25))).alloc (Nat.le_refl _) (.cells #[] 100))
  have HAT := Lib.hid (show ∀ i (h : i < st.length), ∀ j u, (Sx.enc st[i])[j]? = some u → ((w.alloc (.cells #[.slice a1 n n1, .slice a2 m n2] 25)).alloc (.cells #[] 100)).cell? (q3.add (i * 3 + j)) = some u from by
    intro i h j u hu
    subst hq3
    have h1 := ((hcells3 i h).below (HB.out.trans (HBa.out.mono HB.out.size)) hbb3) j u hu
    rw [Addr.add_lit, ← Nat.add_assoc]
    exact h1)
  have hwl := Own.lit (l := []) Sx.enc_len 100 (w.alloc (.cells #[.slice a1 n n1, .slice a2 m n2] 25)) #[] 0 (w.alloc (.cells #[.slice a1 n n1, .slice a2 m n2] 25)).heap.size rfl rfl (by simp) (Nat.le_refl _)
  simp only [World.size_alloc] at hwl
  have HWL := Lib.hid hwl
  have HX2 := Lib.hid (HX.out.alloc (.cells #[] 100))
  have hsl : st.length ≤ 1000000000 := by omega
  clear hcells3 hwl hq3 hbb3
  go_enter Tryz.func49, Tryz.ntmps49
  go_wp2_with (at_builtin; refine wpList_cat Sx.enc 3 32 39 100 _ Tryz.underlying39 infoSx rfl (by decide) (by decide) Sx.enc_len Sx.enc_one [] st (w.heap.size + 1) ((w.alloc (.cells #[.slice a1 n n1, .slice a2 m n2] 25)).alloc (.cells #[] 100)) (.slice (some ⟨w.heap.size + 1, 0, none⟩) 0 0) HWL.out (by simp) (by simp; omega) q3 n3 HAT.out rfl _ _ rfl rfl rfl ?_; intro v' w' hown' hg')
  have hown2 : Own Sx.enc 3 100 w' (w.heap.size + 1) v' st := by simpa using hown'
  have HB2 := Lib.hid ((HB.out.alloc (by simp) (.cells #[] 100)).grown hg' (by simp; omega) fun j hj => by
    have : w.heap.size + 1 = j := Option.some.inj hj
    omega)
  have HX3 := Lib.hid (HX2.out.kept hg' (fun e => by have : w.heap.size = w.heap.size + 1 := Option.some.inj e; omega))
  obtain ⟨g, cap, hvv, hg1, hg2⟩ := hown2.form (by omega)
  rw [hln] at hvv
  subst hvv
  have HO2 := Lib.hid hown2
  have hgw : w.heap.size < g := by omega
  clear hown' hown2 hg' hg1 hg2 HWL HAT HBa HB HX HX2
  go_loopw [8] (fun j wr => ∃ k : Nat, k ≤ ln ∧ j = .int .i64 k ∧ Below w.heap.size w wr ∧ Box wr w.heap.size 25 [.slice a1 n n1, .slice a2 m n2] ∧ Own Sx.enc 3 100 wr (w.heap.size + 1) (.slice (some ⟨g, 0, none⟩) n cap) (resumeTo p l st k)) (fun j _ => ln - (intOf j).toNat)
  case atStart => exact ⟨0, by omega, rfl, HB2.out, HX3.out, HO2.out⟩
  case round =>
    clear HB2 HX3 HO2
    obtain ⟨k, hk, rfl, hbe, hx, hown⟩ := hrel
    have HBE := Lib.hid hbe
    have HXE := Lib.hid hx
    have HOE := Lib.hid hown
    clear hbe hx hown
    by_cases hlt : k < ln
    rotate_left
    · obtain rfl : ln = k := by omega
      go_wp2_with fail
      exact HQ.out _ _ (HOE.out.lower (show w.heap.size ≤ w.heap.size + 1 by omega)) HBE.out
    have hkl : k < l.length := by rw [HLN.out]; exact hlt
    obtain ⟨b, off, rfl, hbb, hcells⟩ := HA.out (by omega)
    have c0 := ((hcells k hkl).below HBE.out hbb).c1
    rw [Nat.mul_one] at c0
    have hbz : b < wr.heap.size := Nat.lt_of_lt_of_le hbb HBE.out.size
    obtain ⟨x, hy, hxn⟩ := inN_nat (HIN.out l[k] (List.getElem_mem hkl))
    rw [hy] at c0
    have HLK := Lib.hid (show l.getD k 0 = (x : Int) by rw [getD_at l k hkl, hy])
    have hxl : x < p.ms.length := by rw [HN.out]; exact hxn
    obtain ⟨b1, off1, rfl, hbb1, hcells1⟩ := HA1.out (by omega)
    have HCM := Lib.hid (hcells1 x hxl)
    have HKD := Lib.hid (kdA_nat hxl)
    have HSU := Lib.hid (resumeTo_succ p l st k x HLK.out)
    have HLL := Lib.hid (HST.out k)
    have HSE := Lib.hid (set_self (resumeTo p l st k) x (by rw [HLL.out]; exact hxn))
    have HCB := Lib.hid hcells
    clear hcells hcells1 hy hkl
    generalize resumeTo p l st k = L at *
    rw [← HSE.out] at HOE
    unfold resumeV at HSU
    rw [HLK.out, HKD.out] at HSU
    generalize p.ms[x] = mx at *
    generalize L.getD x s0 = sx at *
    clear hxl HSE HKD HLK
    obtain ⟨sm, tm⟩ := mx
    obtain ⟨rn, fd, gr⟩ := sx
    dsimp only at HSU
    have HK42 := Lib.hid (fun w1 => isConveyor42 sm w1)
    obtain ⟨qc, hqc⟩ : ∃ q, cvB sm = q := ⟨_, rfl⟩
    rw [hqc] at HK42 HSU
    clear hqc
    obtain ⟨x0, x1, xf, xz⟩ := HXE.out.v2
    obtain ⟨m0, m1⟩ := (HCM.out.below HBE.out hbb1).c2
    have hb1z := Nat.lt_of_lt_of_le hbb1 HBE.out.size
    have oz0 := HOE.out.ltN.2
    dsimp only at m0 m1
    have HK := Lib.hid (fun (X : Later wr) => HK42.out X.w)
    go_wp2_with fail
    refine wp_region_head_later 17 (by kernel_rfl) (by kernel_rfl) ?_
    simp only [List.take_succ_cons, List.take_zero, List.drop_succ_cons, List.drop_zero]
    repeat go_big_quiet_step ((go_at_call 42; exact Calls.later_same (HK.out _)))
    refine wpQuiet_nil ?_
    rintro w3 ⟨⟨_, hb3⟩, rfl⟩
    have HB3 := Lib.hid (HBE.out.trans (hb3.mono HBE.out.size))
    have HX3 := Lib.hid (HXE.out.later hb3)
    have HO3 := Lib.hid (HOE.out.later hb3)
    clear x0 x1 xf xz m0 m1 hb1z hb3 oz0
    obtain ⟨o0, o1, o2⟩ := (HO3.out.atS HLL.out Sx.enc_len hxn).c3
    have ofz := HO3.out.frozenS HLL.out
    have oz := HO3.out.ltN.2
    dsimp only at o0 o1 o2
    have HB4 := Lib.hid (HB3.out.setCell (p := ⟨g, x * 3 + 0, none⟩) (by dsimp only; omega) (.bool qc))
    have HX4 := Lib.hid (HX3.out.other (a := ⟨g, x * 3 + 0, none⟩) (.bool qc) (by dsimp only; omega))
    have HO4 := Lib.hid (HO3.out.setS HLL.out Sx.enc_len hxn 0 (by omega) (.bool qc) ⟨qc, fd, gr⟩ rfl)
    simp only [Nat.add_zero] at HB4 HX4 HO4
    go_wp2_with fail
    go_roundw
    case rel => exact ⟨k + 1, by omega, by go_num, HB4.out, HX4.out, by rw [HSU.out]; exact HO4.out⟩
    case measure => simp [intOf]; omega
end Go.Proofs.YtahpdkkpnkhnhaaGreatDoor

/- Walks: Resume. -/
namespace Go.Proofs.YtahpdkkpnkhnhaaGreatDoor
open Go Go.Proofs Go.RowKit Go.Shelf

set_option maxRecDepth 100000 in
set_option maxHeartbeats 1000000 in
theorem resume46 (w : World) (v1 v2 u y : Value) (p : Pl) (st : List Sx) (l : List Int) (hw : WdR w) (hv : PlR w w.heap.size v1 v2 p) (hu : Sl Sx.enc 3 w w.heap.size u st) (hs : SzR st) (hx : Sl encI 1 w w.heap.size y l) : Calls Tryz.prog 46 #[.agg #[v1, v2], u, y] w (StE w (stopE p st l) (resumeTo p l st l.length)) := by
  have HP := Lib.hid (fun (w1 : World) (hb : Below w.heap.size w w1) => checkSet90 w1 _ _ u y p st l (hw.later hb) (hv.later hb) (hu.later hb) hs (hx.later hb))
  have HI := Lib.hid (fun (w1 : World) (hb : Below w.heap.size w w1) => isSet109 w1 u y st l (hu.later hb) (hx.later hb))
  have HCV := Lib.hid (fun s t (w1 : World) (hb : Below w.heap.size w w1) => conveys84 s t w1 (hw.later hb))
  have HCL := Lib.hid (fun (w1 : World) (hb : Below w.heap.size w w1) => clone95 w1 u st (hu.later hb))
  obtain ⟨⟨a1, n1, rfl, hl1, hA1⟩, ⟨a2, n2, rfl, hl2, hA2⟩⟩ := hv
  obtain ⟨a, c, rfl, hlen, hA⟩ := hx
  have HA1 := Lib.hid hA1
  have HA := Lib.hid hA
  clear hA1 hA2 hA hl2 hw hu hs
  obtain ⟨h11, h12⟩ := hl1
  obtain ⟨hl, hlc⟩ := hlen
  have HB := Lib.hid ((Below.refl w.heap.size w).alloc (Nat.le_refl _) (.cells #[.slice a1 p.ms.length n1, .slice a2 p.arcs.length n2] 25))
  have HX := Lib.hid (Box.new w #[.slice a1 p.ms.length n1, .slice a2 p.arcs.length n2] 25)
  have HOK := Lib.hid (fun h : setE p st l = 0 => setE_ok h)
  unfold setE at HOK
  obtain ⟨E, hE⟩ : ∃ E, stopE p st l = E := ⟨_, rfl⟩
  rw [hE]
  unfold stopE setE at hE
  have HE := Lib.hid hE
  clear hE
  obtain ⟨cp, hcp⟩ : ∃ c, (if ckState p st ≠ 0 then ckState p st else pathE p l) = c := ⟨_, rfl⟩
  rw [hcp] at HP HE HOK
  clear hcp
  obtain ⟨n, hn⟩ : ∃ n, p.ms.length = n := ⟨_, rfl⟩
  obtain ⟨m, hm⟩ : ∃ m, p.arcs.length = m := ⟨_, rfl⟩
  obtain ⟨ln, hll⟩ : ∃ m, l.length = m := ⟨_, rfl⟩
  rw [hn] at HB HX HP h11 h12 ⊢
  rw [hm] at HB HX HP ⊢
  rw [hll] at hl hlc HP HI ⊢
  have HN := Lib.hid hn
  have HLN := Lib.hid hll
  clear hn hm hll
  obtain ⟨Q, hQ⟩ : ∃ Q, StE w E (resumeTo p l st ln) = Q := ⟨_, rfl⟩
  rw [hQ]
  have HQ := Lib.hid hQ
  clear hQ
  go_enter Tryz.func46, Tryz.ntmps46
  go_wp2_with fail
  refine (HP.out _ HB.out).mono ?_
  rintro e w2 ⟨rfl, hb2⟩
  have HB2 := Lib.hid (HB.out.trans (hb2.mono HB.out.size))
  have HX2 := Lib.hid (HX.out.later hb2)
  obtain ⟨x0, x1, xf, xz⟩ := HX2.out.v2
  clear hb2
  by_cases hc0 : cp = 0
  rotate_left
  · have k0 : (cp != 0) = true := by simpa using hc0
    rw [if_pos hc0] at HE
    have HC0 := Lib.hid hc0
    clear hc0
    go_wp2_with fail
    rw [← HQ.out, ← HE.out]
    exact StE.no HC0.out HB2.out
  subst hc0
  rw [if_neg (by simp)] at HE
  have HO := Lib.hid (HOK.out rfl)
  have HI2 := Lib.hid (fun (w1 : World) (hb : Below w.heap.size w w1) => HI.out w1 hb (by rw [HO.out.len]; exact HO.out.ins))
  have HIN := Lib.hid HO.out.ins
  have hln := HO.out.len
  rw [HN.out] at HIN hln
  have HST := Lib.hid (fun k => (resumeTo_len p l st k).trans hln)
  have hpos := HO.out.ok.pos
  rw [HN.out] at hpos
  clear HI HOK HO
  obtain ⟨q, hq⟩ : ∃ q, setB st l = q := ⟨_, rfl⟩
  rw [hq] at HI2 HE
  clear hq
  go_wp2_with fail
  refine (HI2.out _ HB2.out).mono ?_
  rintro e w3 ⟨rfl, hb3⟩
  have HB3 := Lib.hid (HB2.out.trans (hb3.mono HB2.out.size))
  clear x0 x1 xf xz
  have HX3 := Lib.hid (HX2.out.later hb3)
  obtain ⟨x0, x1, xf, xz⟩ := HX3.out.v2
  clear hb3
  cases q with
  | false =>
    go_wp2_with fail
    rw [← HQ.out, ← HE.out]
    exact StE.no (by decide) HB3.out
  | true =>
    have HE0 := Lib.hid (show E = 0 from HE.out.symm)
    clear HE
    go_wp2_with fail
    refine (HCL.out _ HB3.out).mono ?_
    rintro e w4 ⟨v, rfl, hown, hb4⟩
    have HB4 := Lib.hid (HB3.out.trans (hb4.mono HB3.out.size))
    have HX4 := Lib.hid (HX3.out.later hb4)
    obtain ⟨g, cap, hvv, hg1, hg2⟩ := hown.form (by rw [hln]; omega)
    rw [hln] at hvv
    subst hvv
    have HO4 := Lib.hid (hown.lower (show w.heap.size + 1 ≤ _ by have := HX3.out.lt; omega))
    have hgw : w.heap.size < g := by have := HX3.out.lt; omega
    clear hb4 hown hg1 hg2 hln x0 x1 xf xz
    go_wp2_with fail
    go_loopw [27] (fun j wr => ∃ k : Nat, k ≤ ln ∧ j = .int .i64 k ∧ Below w.heap.size w wr ∧ Box wr w.heap.size 25 [.slice a1 n n1, .slice a2 m n2] ∧ Own Sx.enc 3 100 wr (w.heap.size + 1) (.slice (some ⟨g, 0, none⟩) n cap) (resumeTo p l st k)) (fun j _ => ln - (intOf j).toNat)
    case atStart => exact ⟨0, by omega, rfl, HB4.out, HX4.out, HO4.out⟩
    case round =>
      clear HB4 HX4 HO4
      obtain ⟨k, hk, rfl, hbe, hx, hown⟩ := hrel
      have HBE := Lib.hid hbe
      have HXE := Lib.hid hx
      have HOE := Lib.hid hown
      clear hbe hx hown
      by_cases hlt : k < ln
      rotate_left
      · obtain rfl : ln = k := by omega
        go_wp2_with fail
        rw [← HQ.out, HE0.out]
        exact StE.yes (HOE.out.lower (show w.heap.size ≤ w.heap.size + 1 by omega)) HBE.out
      have hkl : k < l.length := by rw [HLN.out]; exact hlt
      obtain ⟨b, off, rfl, hbb, hcells⟩ := HA.out (by omega)
      have c0 := ((hcells k hkl).below HBE.out hbb).c1
      rw [Nat.mul_one] at c0
      have hbz : b < wr.heap.size := Nat.lt_of_lt_of_le hbb HBE.out.size
      obtain ⟨x, hy, hxn⟩ := inN_nat (HIN.out l[k] (List.getElem_mem hkl))
      rw [hy] at c0
      have HLK := Lib.hid (show l.getD k 0 = (x : Int) by rw [getD_at l k hkl, hy])
      have hxl : x < p.ms.length := by rw [HN.out]; exact hxn
      obtain ⟨b1, off1, rfl, hbb1, hcells1⟩ := HA1.out (by omega)
      have HCM := Lib.hid (hcells1 x hxl)
      have HKD := Lib.hid (kdA_nat hxl)
      have HSU := Lib.hid (resumeTo_succ p l st k x HLK.out)
      have HLL := Lib.hid (HST.out k)
      have HSE := Lib.hid (set_self (resumeTo p l st k) x (by rw [HLL.out]; exact hxn))
      clear hcells hcells1 hy hkl
      generalize resumeTo p l st k = L at *
      rw [← HSE.out] at HOE
      unfold resumeV at HSU
      rw [HLK.out, HKD.out] at HSU
      generalize p.ms[x] = mx at *
      generalize L.getD x s0 = sx at *
      clear hxl HSE HKD HLK
      obtain ⟨sm, tm⟩ := mx
      obtain ⟨rn, fd, gr⟩ := sx
      dsimp only at HSU
      have HK84 := Lib.hid (HCV.out sm tm)
      obtain ⟨qc, hqc⟩ : ∃ q, cvB sm = q := ⟨_, rfl⟩
      rw [hqc] at HK84 HSU
      clear hqc
      obtain ⟨x0, x1, xf, xz⟩ := HXE.out.v2
      obtain ⟨o0, o1, o2⟩ := (HOE.out.atS HLL.out Sx.enc_len hxn).c3
      have ofz := HOE.out.frozenS HLL.out
      have oz := HOE.out.ltN.2
      obtain ⟨m0, m1⟩ := (HCM.out.below HBE.out hbb1).c2
      have hb1z := Nat.lt_of_lt_of_le hbb1 HBE.out.size
      dsimp only at o0 o1 o2 m0 m1
      go_wp2_with fail
      refine (HK84.out _ HBE.out).mono ?_
      rintro e5 w5 ⟨rfl, hb⟩
      have HB5 := Lib.hid (HBE.out.trans (hb.mono HBE.out.size))
      have HX5 := Lib.hid (HXE.out.later hb)
      have HO5 := Lib.hid (HOE.out.later hb)
      clear hb x0 x1 xf xz o0 o1 o2 ofz oz m0 m1 hb1z
      obtain ⟨o0, o1, o2⟩ := (HO5.out.atS HLL.out Sx.enc_len hxn).c3
      have ofz := HO5.out.frozenS HLL.out
      have oz := HO5.out.ltN.2
      dsimp only at o0 o1 o2
      have HB6 := Lib.hid (HB5.out.setCell (p := ⟨g, x * 3 + 0, none⟩) (by dsimp only; omega) (.bool qc))
      have HX6 := Lib.hid (HX5.out.other (a := ⟨g, x * 3 + 0, none⟩) (.bool qc) (by dsimp only; omega))
      have HO6 := Lib.hid (HO5.out.setS HLL.out Sx.enc_len hxn 0 (by omega) (.bool qc) ⟨qc, fd, gr⟩ rfl)
      simp only [Nat.add_zero] at HB6 HX6 HO6
      go_wp2_with fail
      go_roundw
      case rel => exact ⟨k + 1, by omega, by go_num, HB6.out, HX6.out, by rw [HSU.out]; exact HO6.out⟩
      case measure => simp [intOf]; omega
end Go.Proofs.YtahpdkkpnkhnhaaGreatDoor

/- Walks: Clean. -/
namespace Go.Proofs.YtahpdkkpnkhnhaaGreatDoor
open Go Go.Proofs Go.RowKit Go.Shelf

set_option maxRecDepth 100000 in
set_option maxHeartbeats 1000000 in
theorem runs112 (pb pc : Nat) (v1 v2 u : Value) (x : Int) (p : Pl) (st : List Sx) (w : World) (hw : WdR w) (hv : PlR w w.heap.size v1 v2 p) (hu : Sl Sx.enc 3 w w.heap.size u st) (hx : Box w pb 25 [v1, v2]) (hy : Box w pc 39 [u]) (hin : inN p.ms.length x = true) (hln : st.length = p.ms.length) :
    Calls Tryz.prog 112 (#[.int .i64 x] ++ #[.pointer (some ⟨pb, 0, none⟩), .pointer (some ⟨pc, 0, none⟩)]) w (Ret (.bool (!runK p st x)) w) := by
  obtain ⟨y, rfl, hyn⟩ := inN_nat hin
  obtain ⟨⟨a1, n1, rfl, hl1, hA1⟩, ⟨a2, n2, rfl, hl2, hA2⟩⟩ := hv
  obtain ⟨a3, n3, rfl, hl3, hA3⟩ := hu
  have hys : y < st.length := by omega
  obtain ⟨b1, off1, rfl, hbb1, hcells1⟩ := hA1 (by omega)
  obtain ⟨b3, off3, rfl, hbb3, hcells3⟩ := hA3 (by omega)
  obtain ⟨m0, m1⟩ := (hcells1 y hyn).c2
  have HCS := Lib.hid (hcells3 y hys)
  have HX := Lib.hid hx
  have HY := Lib.hid hy
  obtain ⟨x0, x1, xf, xz⟩ := hx.v2
  obtain ⟨y0, yf, yz⟩ := hy.v1
  obtain ⟨h11, h12⟩ := hl1
  obtain ⟨h31, h32⟩ := hl3
  have HRK := Lib.hid (show runK p st (y : Int) = !(cvB (kdA p y) && !(st.getD y s0).runs) from rfl)
  rw [stGet hys, kdA_nat hyn] at HRK
  clear hx hy hA1 hA2 hA3 hcells1 hcells3 hl2 hin
  have hyn2 : (y : Int) < p.ms.length := by omega
  rw [HRK.out]
  clear HRK
  rw [hln] at *
  generalize p.ms[y] = mx at *
  generalize st[y] = sx at *
  obtain ⟨sm, tm⟩ := mx
  obtain ⟨rn, fd, gr⟩ := sx
  dsimp only at m0 m1 ⊢
  have HK84 := Lib.hid (conveys84 sm tm w hw)
  obtain ⟨qc, hqc⟩ : ∃ q, cvB sm = q := ⟨_, rfl⟩
  rw [hqc] at HK84 ⊢
  clear hqc hw hys
  go_enter Tryz.func112, Tryz.ntmps112
  go_wp2_with fail
  refine HK84.out.mono ?_
  rintro e w2 ⟨rfl, hb2⟩
  have HB2 := Lib.hid hb2
  clear x0 x1 xf xz y0 yf yz m0 m1
  obtain ⟨y0, yf, yz⟩ := (HY.out.later hb2).v1
  obtain ⟨d0, d1, d2⟩ := (HCS.out.below hb2 hbb3).c3
  have hb3z := Nat.lt_of_lt_of_le hbb3 hb2.size
  dsimp only at d0 d1 d2
  clear hb2
  cases qc with
  | false =>
    go_wp2_with fail
    go_ret
    exact ⟨rfl, HB2.out⟩
  | true =>
    cases rn with
    | false =>
      go_wp2_with fail
      go_ret
      exact ⟨rfl, HB2.out⟩
    | true =>
      go_wp2_with fail
      go_ret
      exact ⟨rfl, HB2.out⟩
def cleanE (p : Pl) (st : List Sx) (l : List Int) : Int := if setE p st l ≠ 0 then setE p st l else if (setB st l && runsB p st l) = true then 0 else 26

set_option maxRecDepth 100000 in
set_option maxHeartbeats 1000000 in
theorem clean45 (w : World) (v1 v2 u y : Value) (p : Pl) (st : List Sx) (l : List Int) (hw : WdR w) (hv : PlR w w.heap.size v1 v2 p) (hu : Sl Sx.enc 3 w w.heap.size u st) (hs : SzR st) (hx : Sl encI 1 w w.heap.size y l) : Calls Tryz.prog 45 #[.agg #[v1, v2], u, y] w (StE w (cleanE p st l) (stopTo p l true st l.length)) := by
  have HP := Lib.hid (fun (w1 : World) (hb : Below w.heap.size w w1) => checkSet90 w1 _ _ u y p st l (hw.later hb) (hv.later hb) (hu.later hb) hs (hx.later hb))
  have HI := Lib.hid (fun (w1 : World) (hb : Below w.heap.size w w1) => isSet109 w1 u y st l (hu.later hb) (hx.later hb))
  have HT := Lib.hid (fun (w1 : World) (hb : Below w.heap.size w w1) => stopped110 w1 v1 v2 u y true p st l (hw.later hb) (hv.later hb) (hu.later hb) (hx.later hb))
  obtain ⟨a1, n1, a2, n2, rfl, rfl⟩ := hv.agg
  obtain ⟨a3, n3, e3, _, _⟩ := id hu
  obtain ⟨sn, hsn⟩ : ∃ n, st.length = n := ⟨_, rfl⟩
  rw [hsn] at e3
  subst e3
  clear hsn
  have HCF := Lib.hid (fun (w1 : World) (hb : Below w.heap.size w w1) (h1 : Box w1 w.heap.size 25 [.slice a1 p.ms.length n1, .slice a2 p.arcs.length n2]) (h2 : Box w1 (w.heap.size + 1) 39 [.slice a3 sn n3]) (hin : ∀ y ∈ l, inN p.ms.length y = true) (hln : st.length = p.ms.length) =>
    containsF111 y l 112 #[.pointer (some ⟨w.heap.size, 0, none⟩), .pointer (some ⟨w.heap.size + 1, 0, none⟩)] (fun x => !runK p st x) w1 (enters_of Tryz.func112 (by kernel_rfl) rfl) (hx.later hb) (fun w' x hb' hm =>
      runs112 w.heap.size (w.heap.size + 1) _ _ _ x p st w' (hw.later (hb.trans (hb'.mono hb.size))) (hv.later (hb.trans (hb'.mono hb.size))) (hu.later (hb.trans (hb'.mono hb.size))) (h1.later hb') (h2.later hb') (hin x hm) hln))
  have hany : l.any (fun x => !runK p st x) = !runsB p st l := by unfold runsB; rw [List.not_all_eq_any_not]
  rw [hany] at HCF
  clear hw hv hu hx hs hany
  have HB := Lib.hid ((Below.refl w.heap.size w).alloc (Nat.le_refl _) (.cells #[.slice a1 p.ms.length n1, .slice a2 p.arcs.length n2] 25))
  have HB := Lib.hid (HB.out.alloc (by simp) (.cells #[.slice a3 sn n3] 39))
  have HX := Lib.hid ((Box.new w #[.slice a1 p.ms.length n1, .slice a2 p.arcs.length n2] 25).alloc (.cells #[.slice a3 sn n3] 39))
  have HY := Lib.hid (Box.newAt (w.alloc (.cells #[.slice a1 p.ms.length n1, .slice a2 p.arcs.length n2] 25)) #[.slice a3 sn n3] 39 (by simp : _ = w.heap.size + 1))
  have HOK := Lib.hid (fun h : setE p st l = 0 => setE_ok h)
  unfold setE at HOK
  obtain ⟨E, hE⟩ : ∃ E, cleanE p st l = E := ⟨_, rfl⟩
  rw [hE]
  unfold cleanE setE at hE
  have HE := Lib.hid hE
  clear hE
  obtain ⟨cp, hcp⟩ : ∃ c, (if ckState p st ≠ 0 then ckState p st else pathE p l) = c := ⟨_, rfl⟩
  rw [hcp] at HP HE HOK
  clear hcp
  obtain ⟨NEW, hNEW⟩ : ∃ L, stopTo p l true st l.length = L := ⟨_, rfl⟩
  rw [hNEW] at HT ⊢
  clear hNEW
  obtain ⟨Q, hQ⟩ : ∃ Q, StE w E NEW = Q := ⟨_, rfl⟩
  rw [hQ]
  have HQ := Lib.hid hQ
  clear hQ
  go_enter Tryz.func45, Tryz.ntmps45
  go_wp2_with fail
  refine (HP.out _ HB.out).mono ?_
  rintro e w2 ⟨rfl, hb2⟩
  have HB2 := Lib.hid (HB.out.trans (hb2.mono HB.out.size))
  have HX2 := Lib.hid (HX.out.later hb2)
  have HY2 := Lib.hid (HY.out.later hb2)
  obtain ⟨y0, yf, yz⟩ := HY2.out.v1
  obtain ⟨x0, x1, xf, xz⟩ := HX2.out.v2
  clear hb2
  by_cases hc0 : cp = 0
  rotate_left
  · have k0 : (cp != 0) = true := by simpa using hc0
    rw [if_pos hc0] at HE
    have HC0 := Lib.hid hc0
    clear hc0
    go_wp2_with fail
    rw [← HQ.out, ← HE.out]
    exact StE.no HC0.out HB2.out
  subst hc0
  rw [if_neg (by simp)] at HE
  have HO := Lib.hid (HOK.out rfl)
  have HI2 := Lib.hid (fun (w1 : World) (hb : Below w.heap.size w w1) => HI.out w1 hb (by rw [HO.out.len]; exact HO.out.ins))
  have HT2 := Lib.hid (fun (w1 : World) (hb : Below w.heap.size w w1) => HT.out w1 hb HO.out.ins HO.out.len HO.out.ok.pos)
  clear HI HT HOK
  have HCF2 := Lib.hid (fun (w1 : World) (hb : Below w.heap.size w w1) h1 h2 => HCF.out w1 hb h1 h2 HO.out.ins HO.out.len)
  obtain ⟨q, hq⟩ : ∃ q, setB st l = q := ⟨_, rfl⟩
  obtain ⟨qr, hqr⟩ : ∃ q, runsB p st l = q := ⟨_, rfl⟩
  rw [hq] at HI2 HE
  rw [hqr] at HCF2 HE
  clear hq hqr HCF
  go_wp2_with fail
  refine (HI2.out _ HB2.out).mono ?_
  rintro e w3 ⟨rfl, hb3⟩
  have HB3 := Lib.hid (HB2.out.trans (hb3.mono HB2.out.size))
  clear x0 x1 xf xz y0 yf yz
  have HX3 := Lib.hid (HX2.out.later hb3)
  have HY3 := Lib.hid (HY2.out.later hb3)
  obtain ⟨x0, x1, xf, xz⟩ := HX3.out.v2
  obtain ⟨y0, yf, yz⟩ := HY3.out.v1
  clear hb3
  cases q with
  | false =>
    go_wp2_with fail
    rw [← HQ.out, ← HE.out]
    exact StE.no (by simp) HB3.out
  | true =>
    go_wp2_with fail
    refine (HCF2.out _ HB3.out HX3.out HY3.out).mono ?_
    rintro e w4 ⟨rfl, hb4⟩
    have HB4 := Lib.hid (HB3.out.trans (hb4.mono HB3.out.size))
    clear x0 x1 xf xz y0 yf yz
    have HX4 := Lib.hid (HX3.out.later hb4)
    have HY4 := Lib.hid (HY3.out.later hb4)
    obtain ⟨x0, x1, xf, xz⟩ := HX4.out.v2
    obtain ⟨y0, yf, yz⟩ := HY4.out.v1
    clear hb4
    cases qr with
    | false =>
      go_wp2_with fail
      rw [← HQ.out, ← HE.out]
      exact StE.no (by decide) HB4.out
    | true =>
      go_wp2_with fail
      refine (HT2.out _ HB4.out).mono ?_
      rintro e w5 ⟨v, rfl, hown, hb5⟩
      have HB5 := Lib.hid (HB4.out.trans (hb5.mono HB4.out.size))
      have HO5 := Lib.hid (hown.lower HB4.out.size)
      obtain ⟨av, cv, rfl⟩ := hown.shape
      clear hown hb5
      go_wp2_with fail
      rw [← HQ.out, ← HE.out]
      exact StE.yes HO5.out HB5.out
end Go.Proofs.YtahpdkkpnkhnhaaGreatDoor
