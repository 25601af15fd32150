/- Lemmas on the way to the law TopChanges (part 28): Kg Kh Ki -/
import Derived.Test.YtflchbejjofppaaGreatDoorTopChangesP27
import Derived.Test.YtflchbejjofppaaGreatDoorTopChangesP24
import Derived.Test.YtflchbejjofppaaGreatDoorTopChangesP19
import Derived.Test.YtflchbejjofppaaGreatDoorTopChangesP26
set_option linter.unusedVariables false
set_option linter.unusedSimpArgs false

/- Walks: the reference's minus, times, plus. -/
namespace Go.Proofs.YtflchbejjofppaaGreatDoor.Nu
open Go Go.Proofs Go.RowKit Go.Proofs.YtflchbejjofppaaGreatDoor
inductive Kg where
  | is (x : Value)
  | ig (z : Int)
  | dz (m : Nat)
  | igs (p q : Int)
def Kg.R : Kg → Value → World → Prop
  | .is x, v, _ => v = x
  | .ig z, v, w => IgR w v z
  | .dz m, v, w => ∃ l, DzR w v l m
  | .igs p q, v, w => ∃ x y, v = .tuple #[x, y] ∧ IgR w x p ∧ IgR w y q
theorem Kg.later {k : Kg} {v : Value} {w w' : World} (h : k.R v w) (hb : Below w.heap.size w w') : k.R v w' := by
  cases k with
  | is x => exact h
  | ig z => exact IgR.later h hb
  | dz m => exact h.imp fun _ h => h.later hb
  | igs p q => obtain ⟨x, y, e, h1, h2⟩ := h; exact ⟨x, y, e, h1.later hb, h2.later hb⟩
def kindsG (l : List Kg) (j : Nat) (v : Value) (w : World) : Prop := (l.getD j (.ig 0)).R v w
theorem RetDl.dz {w : World} {m : Nat} {e : Ending} {w' : World} (h : RetDl w m e w') : RetDz w m e w' := by
  obtain ⟨a, n, c, l, e, h, hb⟩ := h
  exact ⟨a, n, c, l, e, h.toZ, hb⟩
theorem IgR.dl {w : World} {v : Value} {z : Int} (h : IgR w v z) : ∃ a n c l, v = .agg #[.bool (decide (z < 0)), .slice a n c] ∧ DlR w (.slice a n c) l z.natAbs := by
  obtain ⟨a, n, c, l, e, h1, h2, h3, h4, h5⟩ := h
  exact ⟨a, n, c, l, e, h1, h3, h4, h5⟩
theorem DlR.le {w : World} {v : Value} {l : List Nat} {z : Int} {K : Nat} (h : DlR w v l z.natAbs) (hz : Nd K z) : l.length ≤ K := len_le (B := 1000000000) (by decide) h.tr (by rw [h.eq]; exact hz.lt)
theorem gsigned_mul (p q : Bool) (x y : Int) (hp : decide (x < 0) = p) (hq : decide (y < 0) = q) : signed (p != q) (x.natAbs * y.natAbs) = x * y := by
  have e1 : x = if p then -(x.natAbs : Int) else x.natAbs := by rw [← hp]; by_cases h : x < 0 <;> simp [h] <;> omega
  have e2 : y = if q then -(y.natAbs : Int) else y.natAbs := by rw [← hq]; by_cases h : y < 0 <;> simp [h] <;> omega
  conv => rhs; rw [e1, e2]
  unfold signed
  cases p <;> cases q <;> simp [Int.natCast_mul, Int.neg_mul, Int.mul_neg]
set_option maxRecDepth 100000 in
set_option maxHeartbeats 4000000 in
theorem times141 (w : World) (v1 v2 : Value) (z1 z2 : Int) (h1 : IgR w v1 z1) (h2 : IgR w v2 z2) (b1 : Nd 400000 z1) (b2 : Nd 400000 z2) : Calls Tryz.prog 141 #[v1, v2] w (RetG w (z1 * z2)) := by
  obtain ⟨a1, n1, c1, l1, rfl, hd1⟩ := h1.dl
  obtain ⟨a2, n2, c2, l2, rfl, hd2⟩ := h2.dl
  have hl1 := hd1.le b1
  have hl2 := hd2.le b2
  obtain ⟨p1, hp1⟩ : ∃ p, decide (z1 < 0) = p := ⟨_, rfl⟩
  obtain ⟨p2, hp2⟩ : ∃ p, decide (z2 < 0) = p := ⟨_, rfl⟩
  have HM := Lib.hid (fun (u : World) (hb : Below w.heap.size w u) => ((mul135 u a1 a2 n1 n2 c1 c2 l1 l2 _ _ (hd1.later hb) (hd2.later hb) hl1 hl2).mono fun _ _ h => h.dz : Calls Tryz.prog 135 #[.slice a1 n1 c1, .slice a2 n2 c2] u (RetDz u (z1.natAbs * z2.natAbs))))
  have HSG := Lib.hid (gsigned_mul p1 p2 z1 z2 hp1 hp2)
  rw [hp1, hp2]
  obtain ⟨Z0, hZ0⟩ : ∃ y, z1 * z2 = y := ⟨_, rfl⟩
  obtain ⟨M0, hM0⟩ : ∃ y, z1.natAbs * z2.natAbs = y := ⟨_, rfl⟩
  rw [hZ0, hM0] at HSG
  rw [hM0] at HM
  rw [hZ0]
  have HB_0 := Lib.hid ((Below.refl w.heap.size w).alloc (Nat.le_refl _) (.cells #[.bool p1, .slice a1 n1 c1] 99))
  have HB_1 := Lib.hid (HB_0.out.alloc HB_0.out.size (.cells #[.bool p2, .slice a2 n2 c2] 99))
  have HB_2 := Lib.hid (HB_1.out.alloc HB_1.out.size (.cells #[.bool false, .slice none 0 0] 99))
  have HB := Lib.hid HB_2.out
  have HX := Lib.hid (((Box.newAt w #[.bool p1, .slice a1 n1 c1] 99 (n := w.heap.size) (by simp)).alloc (.cells #[.bool p2, .slice a2 n2 c2] 99)).alloc (.cells #[.bool false, .slice none 0 0] 99))
  have HY := Lib.hid ((Box.newAt (w.alloc (.cells #[.bool p1, .slice a1 n1 c1] 99)) #[.bool p2, .slice a2 n2 c2] 99 (n := w.heap.size + 1) (by simp)).alloc (.cells #[.bool false, .slice none 0 0] 99))
  have HZ := Lib.hid (Box.newAt ((w.alloc (.cells #[.bool p1, .slice a1 n1 c1] 99)).alloc (.cells #[.bool p2, .slice a2 n2 c2] 99)) #[.bool false, .slice none 0 0] 99 (n := w.heap.size + 1 + 1) (by simp))
  clear HB_0 HB_1 HB_2
  clear h1 h2 b1 b2 hd1 hd2 hl1 hl2 hp1 hp2 hZ0 hM0
  go_enter Tryz.func141, Tryz.ntmps141
  go_wp2_with fail
  refine wp_region_rel 11 (kindsG [.is (.pointer (some ⟨w.heap.size, 0, none⟩)), .is (.bool p1), .is (.pointer (some ⟨w.heap.size + 1, 0, none⟩)), .is (.bool p2), .is (.bool (p1 != p2)), .is (.pointer (some ⟨w.heap.size, 1, none⟩)), .is (.slice a1 n1 c1), .is (.pointer (some ⟨w.heap.size + 1, 1, none⟩)), .is (.slice a2 n2 c2), .dz M0, .ig Z0]) (by kernel_rfl) (by kernel_rfl) (fun j v u u' h hb => Kg.later h hb) ?_ ?_
  · refine ⟨?_, ?_, ?_, ?_, ?_, ?_, ?_, ?_, ?_, ?_, ?_, trivial⟩
    all_goals
      intro vs u hu hR
      simp only [putsN, List.take_succ_cons, List.take_zero, Act.put, List.setIfInBounds_toArray, List.set_cons_succ, List.set_cons_zero]
    · clear hR hu
      go_wp2_with fail
      exact ⟨rfl, rfl, _, _, rfl, rfl, Below.refl _ _, rfl⟩
    · have e0 : vs 0 = .pointer (some ⟨w.heap.size, 0, none⟩) := hR 0 (by decide) (by kernel_rfl)
      obtain ⟨x0, x1, xf, xz⟩ := (HX.out.later hu).v2
      clear hR hu
      go_wp2_with fail
      exact ⟨rfl, rfl, _, _, rfl, rfl, Below.refl _ _, rfl⟩
    · clear hR hu
      go_wp2_with fail
      exact ⟨rfl, rfl, _, _, rfl, rfl, Below.refl _ _, rfl⟩
    · have e2 : vs 2 = .pointer (some ⟨w.heap.size + 1, 0, none⟩) := hR 2 (by decide) (by kernel_rfl)
      obtain ⟨x0, x1, xf, xz⟩ := (HY.out.later hu).v2
      clear hR hu
      go_wp2_with fail
      exact ⟨rfl, rfl, _, _, rfl, rfl, Below.refl _ _, rfl⟩
    · have e1 : vs 1 = .bool p1 := hR 1 (by decide) (by kernel_rfl)
      have e3 : vs 3 = .bool p2 := hR 3 (by decide) (by kernel_rfl)
      clear hR hu
      go_wp2_with fail
      exact ⟨rfl, rfl, _, _, rfl, rfl, Below.refl _ _, rfl⟩
    · clear hR hu
      go_wp2_with fail
      exact ⟨rfl, rfl, _, _, rfl, rfl, Below.refl _ _, rfl⟩
    · have e5 : vs 5 = .pointer (some ⟨w.heap.size, 1, none⟩) := hR 5 (by decide) (by kernel_rfl)
      obtain ⟨x0, x1, xf, xz⟩ := (HX.out.later hu).v2
      clear hR hu
      go_wp2_with fail
      exact ⟨rfl, rfl, _, _, rfl, rfl, Below.refl _ _, rfl⟩
    · clear hR hu
      go_wp2_with fail
      exact ⟨rfl, rfl, _, _, rfl, rfl, Below.refl _ _, rfl⟩
    · have e7 : vs 7 = .pointer (some ⟨w.heap.size + 1, 1, none⟩) := hR 7 (by decide) (by kernel_rfl)
      obtain ⟨x0, x1, xf, xz⟩ := (HY.out.later hu).v2
      clear hR hu
      go_wp2_with fail
      exact ⟨rfl, rfl, _, _, rfl, rfl, Below.refl _ _, rfl⟩
    · have e6 : vs 6 = .slice a1 n1 c1 := hR 6 (by decide) (by kernel_rfl)
      have e8 : vs 8 = .slice a2 n2 c2 := hR 8 (by decide) (by kernel_rfl)
      have HS := Lib.hid (HM.out u (HB.out.trans (hu.mono HB.out.size)))
      clear hR hu
      go_wp2_with fail
      refine HS.out.mono ?_
      rintro e11 w11 ⟨a11, n11, c11, l11, rfl, hi11, hb⟩
      go_wp2_with fail
      exact ⟨rfl, rfl, _, _, rfl, rfl, hb, _, hi11⟩
    · have e4 : vs 4 = .bool (p1 != p2) := hR 4 (by decide) (by kernel_rfl)
      obtain ⟨l9, k9⟩ : ∃ l, DzR u (vs 9) l M0 := hR 9 (by decide) (by kernel_rfl)
      obtain ⟨a9, c9, e9, _⟩ := k9.sc.shape
      rw [e9] at k9
      have HS := Lib.hid (by have h := signed80 u (p1 != p2) a9 _ c9 l9 k9.sc k9.dg; rw [k9.eq, HSG.out] at h; exact h : Calls Tryz.prog 80 #[.bool (p1 != p2), .slice a9 l9.length c9] u (RetG u Z0))
      clear hR hu k9
      go_wp2_with fail
      refine HS.out.mono ?_
      rintro e11 w11 ⟨v11, rfl, hi11, hb⟩
      go_wp2_with fail
      exact ⟨rfl, rfl, _, _, rfl, rfl, hb, hi11⟩
  · intro vs u hu hR
    have k : IgR u (vs 10) Z0 := hR 10 (by decide)
    have HK := Lib.hid k
    obtain ⟨a9, n9, c9, l9, e9, _⟩ := k
    rw [e9] at HK
    have HZu := Lib.hid (HZ.out.later hu)
    obtain ⟨z0, z1, zf, zz⟩ := HZu.out.v2
    have HBu := Lib.hid (HB.out.trans (hu.mono HB.out.size))
    simp only [putsN, List.drop_succ_cons, List.drop_zero, List.take_succ_cons, List.take_zero, Act.put, List.setIfInBounds_toArray, List.set_cons_succ, List.set_cons_zero, e9]
    clear hR hu e9
    go_wp2_with fail
    refine bodyPost_ret (v := .agg #[.bool (decide (Z0 < 0)), .slice a9 n9 c9]) (by simp [results, Tryz.results141, go_sem, *]) rfl ?_
    refine ⟨_, rfl, IgR.put HK.out HZu.out _ _, ?_⟩
    repeat (first | with_reducible exact HBu.out | with_reducible exact Below.refl _ _ | refine Below.setCell ?_ (by first | (dsimp only; omega) | (simp; done) | (simp; omega)) _ | refine Below.alloc ?_ (by first | omega | (simp; done) | (simp; omega)) _ | refine Below.drew ?_)
set_option maxRecDepth 100000 in
set_option maxHeartbeats 4000000 in
theorem plus140 (w : World) (v1 v2 : Value) (z1 z2 : Int) (h1 : IgR w v1 z1) (h2 : IgR w v2 z2) (b1 : Nd 900000 z1) (b2 : Nd 900000 z2) : Calls Tryz.prog 140 #[v1, v2] w (RetG w (z1 + z2)) := by
  obtain ⟨a1, n1, c1, l1, rfl, hd1⟩ := h1.dl
  obtain ⟨a2, n2, c2, l2, rfl, hd2⟩ := h2.dl
  have hl1 := hd1.le b1
  have hl2 := hd2.le b2
  obtain ⟨p1, hp1⟩ : ∃ p, decide (z1 < 0) = p := ⟨_, rfl⟩
  obtain ⟨p2, hp2⟩ : ∃ p, decide (z2 < 0) = p := ⟨_, rfl⟩
  have HC := Lib.hid (fun (u : World) (hb : Below w.heap.size w u) => compare133 u a1 a2 n1 n2 c1 c2 l1 l2 _ _ (hd1.later hb) (hd2.later hb))
  have HA := Lib.hid (fun (u : World) (hb : Below w.heap.size w u) => add160 u a1 a2 n1 n2 c1 c2 l1 l2 _ _ (hd1.later hb) (hd2.later hb) hl1 hl2)
  have HS1 := Lib.hid (fun (hle : z2.natAbs ≤ z1.natAbs) (u : World) (hb : Below w.heap.size w u) => ((sub161 u a1 a2 n1 n2 c1 c2 l1 l2 _ _ (hd1.later hb) (hd2.later hb) hl1 hle).mono fun _ _ h => h.dz : Calls Tryz.prog 161 #[.slice a1 n1 c1, .slice a2 n2 c2] u (RetDz u (z1.natAbs - z2.natAbs))))
  have HS2 := Lib.hid (fun (hle : z1.natAbs ≤ z2.natAbs) (u : World) (hb : Below w.heap.size w u) => ((sub161 u a2 a1 n2 n1 c2 c1 l2 l1 _ _ (hd2.later hb) (hd1.later hb) hl2 hle).mono fun _ _ h => h.dz : Calls Tryz.prog 161 #[.slice a2 n2 c2, .slice a1 n1 c1] u (RetDz u (z2.natAbs - z1.natAbs))))
  rw [hp1, hp2]
  obtain ⟨Z0, hZ0⟩ : ∃ y, z1 + z2 = y := ⟨_, rfl⟩
  rw [hZ0]
  have HB_0 := Lib.hid ((Below.refl w.heap.size w).alloc (Nat.le_refl _) (.cells #[.bool p1, .slice a1 n1 c1] 99))
  have HB_1 := Lib.hid (HB_0.out.alloc HB_0.out.size (.cells #[.bool p2, .slice a2 n2 c2] 99))
  have HB_2 := Lib.hid (HB_1.out.alloc HB_1.out.size (.cells #[.bool false, .slice none 0 0] 99))
  have HB := Lib.hid HB_2.out
  have HX := Lib.hid (((Box.newAt w #[.bool p1, .slice a1 n1 c1] 99 (n := w.heap.size) (by simp)).alloc (.cells #[.bool p2, .slice a2 n2 c2] 99)).alloc (.cells #[.bool false, .slice none 0 0] 99))
  have HY := Lib.hid ((Box.newAt (w.alloc (.cells #[.bool p1, .slice a1 n1 c1] 99)) #[.bool p2, .slice a2 n2 c2] 99 (n := w.heap.size + 1) (by simp)).alloc (.cells #[.bool false, .slice none 0 0] 99))
  have HZ := Lib.hid (Box.newAt ((w.alloc (.cells #[.bool p1, .slice a1 n1 c1] 99)).alloc (.cells #[.bool p2, .slice a2 n2 c2] 99)) #[.bool false, .slice none 0 0] 99 (n := w.heap.size + 1 + 1) (by simp))
  clear HB_0 HB_1 HB_2
  obtain ⟨x0, x1, xf, xz⟩ := HX.out.v2
  obtain ⟨y0, y1, yf, yz⟩ := HY.out.v2
  by_cases hp : p1 = p2
  · have HSG := Lib.hid (show signed p1 (z1.natAbs + z2.natAbs) = Z0 by rw [← hp1] at hp ⊢; rw [← hp2] at hp; unfold signed; by_cases h : z1 < 0 <;> simp [h] at hp ⊢ <;> omega)
    have HM := Lib.hid HA.out
    obtain ⟨M0, hM0⟩ : ∃ y, z1.natAbs + z2.natAbs = y := ⟨_, rfl⟩
    rw [hM0] at HSG HM
    have k0 : (p1 == p2) = true := by simp [hp]
    clear h1 h2 b1 b2 hd1 hd2 hl1 hl2 hp1 hp2 hZ0 hM0 hp
    go_enter Tryz.func140, Tryz.ntmps140
    go_wp2_with fail
    clear x0 x1 xf xz y0 y1 yf yz
    refine wp_region_rel 8 (kindsG [.is (.pointer (some ⟨w.heap.size, 0, none⟩)), .is (.bool p1), .is (.pointer (some ⟨w.heap.size, 1, none⟩)), .is (.slice a1 n1 c1), .is (.pointer (some ⟨w.heap.size + 1, 1, none⟩)), .is (.slice a2 n2 c2), .dz M0, .ig Z0]) (by kernel_rfl) (by kernel_rfl) (fun j v u u' h hb => Kg.later h hb) ?_ ?_
    · refine ⟨?_, ?_, ?_, ?_, ?_, ?_, ?_, ?_, trivial⟩
      all_goals
        intro vs u hu hR
        simp only [putsN, List.take_succ_cons, List.take_zero, Act.put, List.setIfInBounds_toArray, List.set_cons_succ, List.set_cons_zero]
      · clear hR hu
        go_wp2_with fail
        exact ⟨rfl, rfl, _, _, rfl, rfl, Below.refl _ _, rfl⟩
      · have e0 : vs 0 = .pointer (some ⟨w.heap.size, 0, none⟩) := hR 0 (by decide) (by kernel_rfl)
        obtain ⟨x0, x1, xf, xz⟩ := (HX.out.later hu).v2
        clear hR hu
        go_wp2_with fail
        exact ⟨rfl, rfl, _, _, rfl, rfl, Below.refl _ _, rfl⟩
      · clear hR hu
        go_wp2_with fail
        exact ⟨rfl, rfl, _, _, rfl, rfl, Below.refl _ _, rfl⟩
      · have e2 : vs 2 = .pointer (some ⟨w.heap.size, 1, none⟩) := hR 2 (by decide) (by kernel_rfl)
        obtain ⟨x0, x1, xf, xz⟩ := (HX.out.later hu).v2
        clear hR hu
        go_wp2_with fail
        exact ⟨rfl, rfl, _, _, rfl, rfl, Below.refl _ _, rfl⟩
      · clear hR hu
        go_wp2_with fail
        exact ⟨rfl, rfl, _, _, rfl, rfl, Below.refl _ _, rfl⟩
      · have e4 : vs 4 = .pointer (some ⟨w.heap.size + 1, 1, none⟩) := hR 4 (by decide) (by kernel_rfl)
        obtain ⟨x0, x1, xf, xz⟩ := (HY.out.later hu).v2
        clear hR hu
        go_wp2_with fail
        exact ⟨rfl, rfl, _, _, rfl, rfl, Below.refl _ _, rfl⟩
      · have e3 : vs 3 = .slice a1 n1 c1 := hR 3 (by decide) (by kernel_rfl)
        have e5 : vs 5 = .slice a2 n2 c2 := hR 5 (by decide) (by kernel_rfl)
        have HS := Lib.hid (HM.out u (HB.out.trans (hu.mono HB.out.size)))
        clear hR hu
        go_wp2_with fail
        refine HS.out.mono ?_
        rintro e11 w11 ⟨a11, n11, c11, l11, rfl, hi11, hb⟩
        go_wp2_with fail
        exact ⟨rfl, rfl, _, _, rfl, rfl, hb, _, hi11⟩
      · have e1 : vs 1 = .bool p1 := hR 1 (by decide) (by kernel_rfl)
        obtain ⟨l9, k9⟩ : ∃ l, DzR u (vs 6) l M0 := hR 6 (by decide) (by kernel_rfl)
        obtain ⟨a9, c9, e9, _⟩ := k9.sc.shape
        rw [e9] at k9
        have HS := Lib.hid (by have h := signed80 u (p1) a9 _ c9 l9 k9.sc k9.dg; rw [k9.eq, HSG.out] at h; exact h : Calls Tryz.prog 80 #[.bool (p1), .slice a9 l9.length c9] u (RetG u Z0))
        clear hR hu k9
        go_wp2_with fail
        refine HS.out.mono ?_
        rintro e11 w11 ⟨v11, rfl, hi11, hb⟩
        go_wp2_with fail
        exact ⟨rfl, rfl, _, _, rfl, rfl, hb, hi11⟩
    · intro vs u hu hR
      have k : IgR u (vs 7) Z0 := hR 7 (by decide)
      have HK := Lib.hid k
      obtain ⟨a9, n9, c9, l9, e9, _⟩ := k
      rw [e9] at HK
      have HZu := Lib.hid (HZ.out.later hu)
      obtain ⟨z0, z1, zf, zz⟩ := HZu.out.v2
      have HBu := Lib.hid (HB.out.trans (hu.mono HB.out.size))
      simp only [putsN, List.drop_succ_cons, List.drop_zero, List.take_succ_cons, List.take_zero, Act.put, List.setIfInBounds_toArray, List.set_cons_succ, List.set_cons_zero, e9]
      clear hR hu e9
      go_wp2_with fail
      refine bodyPost_ret (v := .agg #[.bool (decide (Z0 < 0)), .slice a9 n9 c9]) (by simp [results, Tryz.results140, go_sem, *]) rfl ?_
      refine ⟨_, rfl, IgR.put HK.out HZu.out _ _, ?_⟩
      repeat (first | with_reducible exact HBu.out | with_reducible exact Below.refl _ _ | refine Below.setCell ?_ (by first | (dsimp only; omega) | (simp; done) | (simp; omega)) _ | refine Below.alloc ?_ (by first | omega | (simp; done) | (simp; omega)) _ | refine Below.drew ?_)
  · have k0 : (p1 == p2) = false := by simp [hp]
    have HCC := Lib.hid (HC.out _ HB.out)
    obtain ⟨x, hx⟩ : ∃ x, icmp (z1.natAbs : Int) (z2.natAbs : Int) = x := ⟨_, rfl⟩
    rw [hx] at HCC
    by_cases hle : z2.natAbs ≤ z1.natAbs
    · have HSG := Lib.hid (show signed p1 (z1.natAbs - z2.natAbs) = Z0 by rw [← hp1] at hp ⊢; rw [← hp2] at hp; unfold signed; by_cases h : z1 < 0 <;> simp [h] at hp ⊢ <;> omega)
      have HM := Lib.hid (HS1.out hle)
      obtain ⟨M0, hM0⟩ : ∃ y, z1.natAbs - z2.natAbs = y := ⟨_, rfl⟩
      rw [hM0] at HSG HM
      have k1 : decide (0 ≤ x) = true := by rw [← hx]; unfold icmp; rw [if_neg (by omega)]; split <;> decide
      clear h1 h2 b1 b2 hd1 hd2 hl1 hl2 hp1 hp2 hZ0 hM0 hp hx hle
      go_enter Tryz.func140, Tryz.ntmps140
      go_wp2_with fail
      refine HCC.out.mono ?_
      rintro e4 w4 ⟨rfl, hb⟩
      replace HX := Lib.hid (HX.out.later hb)
      replace HY := Lib.hid (HY.out.later hb)
      replace HZ := Lib.hid (HZ.out.later hb)
      replace HB := Lib.hid (HB.out.trans (hb.mono HB.out.size))
      clear hb x0 x1 xf xz y0 y1 yf yz
      go_wp2_with fail
      refine wp_region_rel 8 (kindsG [.is (.pointer (some ⟨w.heap.size, 0, none⟩)), .is (.bool p1), .is (.pointer (some ⟨w.heap.size, 1, none⟩)), .is (.slice a1 n1 c1), .is (.pointer (some ⟨w.heap.size + 1, 1, none⟩)), .is (.slice a2 n2 c2), .dz M0, .ig Z0]) (by kernel_rfl) (by kernel_rfl) (fun j v u u' h hb => Kg.later h hb) ?_ ?_
      · refine ⟨?_, ?_, ?_, ?_, ?_, ?_, ?_, ?_, trivial⟩
        all_goals
          intro vs u hu hR
          simp only [putsN, List.take_succ_cons, List.take_zero, Act.put, List.setIfInBounds_toArray, List.set_cons_succ, List.set_cons_zero]
        · clear hR hu
          go_wp2_with fail
          exact ⟨rfl, rfl, _, _, rfl, rfl, Below.refl _ _, rfl⟩
        · have e0 : vs 0 = .pointer (some ⟨w.heap.size, 0, none⟩) := hR 0 (by decide) (by kernel_rfl)
          obtain ⟨x0, x1, xf, xz⟩ := (HX.out.later hu).v2
          clear hR hu
          go_wp2_with fail
          exact ⟨rfl, rfl, _, _, rfl, rfl, Below.refl _ _, rfl⟩
        · clear hR hu
          go_wp2_with fail
          exact ⟨rfl, rfl, _, _, rfl, rfl, Below.refl _ _, rfl⟩
        · have e2 : vs 2 = .pointer (some ⟨w.heap.size, 1, none⟩) := hR 2 (by decide) (by kernel_rfl)
          obtain ⟨x0, x1, xf, xz⟩ := (HX.out.later hu).v2
          clear hR hu
          go_wp2_with fail
          exact ⟨rfl, rfl, _, _, rfl, rfl, Below.refl _ _, rfl⟩
        · clear hR hu
          go_wp2_with fail
          exact ⟨rfl, rfl, _, _, rfl, rfl, Below.refl _ _, rfl⟩
        · have e4 : vs 4 = .pointer (some ⟨w.heap.size + 1, 1, none⟩) := hR 4 (by decide) (by kernel_rfl)
          obtain ⟨x0, x1, xf, xz⟩ := (HY.out.later hu).v2
          clear hR hu
          go_wp2_with fail
          exact ⟨rfl, rfl, _, _, rfl, rfl, Below.refl _ _, rfl⟩
        · have e3 : vs 3 = .slice a1 n1 c1 := hR 3 (by decide) (by kernel_rfl)
          have e5 : vs 5 = .slice a2 n2 c2 := hR 5 (by decide) (by kernel_rfl)
          have HS := Lib.hid (HM.out u (HB.out.trans (hu.mono HB.out.size)))
          clear hR hu
          go_wp2_with fail
          refine HS.out.mono ?_
          rintro e11 w11 ⟨a11, n11, c11, l11, rfl, hi11, hb⟩
          go_wp2_with fail
          exact ⟨rfl, rfl, _, _, rfl, rfl, hb, _, hi11⟩
        · have e1 : vs 1 = .bool p1 := hR 1 (by decide) (by kernel_rfl)
          obtain ⟨l9, k9⟩ : ∃ l, DzR u (vs 6) l M0 := hR 6 (by decide) (by kernel_rfl)
          obtain ⟨a9, c9, e9, _⟩ := k9.sc.shape
          rw [e9] at k9
          have HS := Lib.hid (by have h := signed80 u (p1) a9 _ c9 l9 k9.sc k9.dg; rw [k9.eq, HSG.out] at h; exact h : Calls Tryz.prog 80 #[.bool (p1), .slice a9 l9.length c9] u (RetG u Z0))
          clear hR hu k9
          go_wp2_with fail
          refine HS.out.mono ?_
          rintro e11 w11 ⟨v11, rfl, hi11, hb⟩
          go_wp2_with fail
          exact ⟨rfl, rfl, _, _, rfl, rfl, hb, hi11⟩
      · intro vs u hu hR
        have k : IgR u (vs 7) Z0 := hR 7 (by decide)
        have HK := Lib.hid k
        obtain ⟨a9, n9, c9, l9, e9, _⟩ := k
        rw [e9] at HK
        have HZu := Lib.hid (HZ.out.later hu)
        obtain ⟨z0, z1, zf, zz⟩ := HZu.out.v2
        have HBu := Lib.hid (HB.out.trans (hu.mono HB.out.size))
        simp only [putsN, List.drop_succ_cons, List.drop_zero, List.take_succ_cons, List.take_zero, Act.put, List.setIfInBounds_toArray, List.set_cons_succ, List.set_cons_zero, e9]
        clear hR hu e9
        go_wp2_with fail
        refine bodyPost_ret (v := .agg #[.bool (decide (Z0 < 0)), .slice a9 n9 c9]) (by simp [results, Tryz.results140, go_sem, *]) rfl ?_
        refine ⟨_, rfl, IgR.put HK.out HZu.out _ _, ?_⟩
        repeat (first | with_reducible exact HBu.out | with_reducible exact Below.refl _ _ | refine Below.setCell ?_ (by first | (dsimp only; omega) | (simp; done) | (simp; omega)) _ | refine Below.alloc ?_ (by first | omega | (simp; done) | (simp; omega)) _ | refine Below.drew ?_)
    · have HSG := Lib.hid (show signed p2 (z2.natAbs - z1.natAbs) = Z0 by rw [← hp1] at hp; rw [← hp2] at hp ⊢; unfold signed; by_cases h : z1 < 0 <;> by_cases h' : z2 < 0 <;> simp [h, h'] at hp ⊢ <;> omega)
      have HM := Lib.hid (HS2.out (by omega))
      obtain ⟨M0, hM0⟩ : ∃ y, z2.natAbs - z1.natAbs = y := ⟨_, rfl⟩
      rw [hM0] at HSG HM
      have k1 : decide (0 ≤ x) = false := by rw [← hx]; unfold icmp; rw [if_pos (by omega)]; decide
      clear h1 h2 b1 b2 hd1 hd2 hl1 hl2 hp1 hp2 hZ0 hM0 hp hx hle
      go_enter Tryz.func140, Tryz.ntmps140
      go_wp2_with fail
      refine HCC.out.mono ?_
      rintro e4 w4 ⟨rfl, hb⟩
      replace HX := Lib.hid (HX.out.later hb)
      replace HY := Lib.hid (HY.out.later hb)
      replace HZ := Lib.hid (HZ.out.later hb)
      replace HB := Lib.hid (HB.out.trans (hb.mono HB.out.size))
      clear hb x0 x1 xf xz y0 y1 yf yz
      go_wp2_with fail
      refine wp_region_rel 8 (kindsG [.is (.pointer (some ⟨w.heap.size + 1, 0, none⟩)), .is (.bool p2), .is (.pointer (some ⟨w.heap.size + 1, 1, none⟩)), .is (.slice a2 n2 c2), .is (.pointer (some ⟨w.heap.size, 1, none⟩)), .is (.slice a1 n1 c1), .dz M0, .ig Z0]) (by kernel_rfl) (by kernel_rfl) (fun j v u u' h hb => Kg.later h hb) ?_ ?_
      · refine ⟨?_, ?_, ?_, ?_, ?_, ?_, ?_, ?_, trivial⟩
        all_goals
          intro vs u hu hR
          simp only [putsN, List.take_succ_cons, List.take_zero, Act.put, List.setIfInBounds_toArray, List.set_cons_succ, List.set_cons_zero]
        · clear hR hu
          go_wp2_with fail
          exact ⟨rfl, rfl, _, _, rfl, rfl, Below.refl _ _, rfl⟩
        · have e0 : vs 0 = .pointer (some ⟨w.heap.size + 1, 0, none⟩) := hR 0 (by decide) (by kernel_rfl)
          obtain ⟨x0, x1, xf, xz⟩ := (HY.out.later hu).v2
          clear hR hu
          go_wp2_with fail
          exact ⟨rfl, rfl, _, _, rfl, rfl, Below.refl _ _, rfl⟩
        · clear hR hu
          go_wp2_with fail
          exact ⟨rfl, rfl, _, _, rfl, rfl, Below.refl _ _, rfl⟩
        · have e2 : vs 2 = .pointer (some ⟨w.heap.size + 1, 1, none⟩) := hR 2 (by decide) (by kernel_rfl)
          obtain ⟨x0, x1, xf, xz⟩ := (HY.out.later hu).v2
          clear hR hu
          go_wp2_with fail
          exact ⟨rfl, rfl, _, _, rfl, rfl, Below.refl _ _, rfl⟩
        · clear hR hu
          go_wp2_with fail
          exact ⟨rfl, rfl, _, _, rfl, rfl, Below.refl _ _, rfl⟩
        · have e4 : vs 4 = .pointer (some ⟨w.heap.size, 1, none⟩) := hR 4 (by decide) (by kernel_rfl)
          obtain ⟨x0, x1, xf, xz⟩ := (HX.out.later hu).v2
          clear hR hu
          go_wp2_with fail
          exact ⟨rfl, rfl, _, _, rfl, rfl, Below.refl _ _, rfl⟩
        · have e3 : vs 3 = .slice a2 n2 c2 := hR 3 (by decide) (by kernel_rfl)
          have e5 : vs 5 = .slice a1 n1 c1 := hR 5 (by decide) (by kernel_rfl)
          have HS := Lib.hid (HM.out u (HB.out.trans (hu.mono HB.out.size)))
          clear hR hu
          go_wp2_with fail
          refine HS.out.mono ?_
          rintro e11 w11 ⟨a11, n11, c11, l11, rfl, hi11, hb⟩
          go_wp2_with fail
          exact ⟨rfl, rfl, _, _, rfl, rfl, hb, _, hi11⟩
        · have e1 : vs 1 = .bool p2 := hR 1 (by decide) (by kernel_rfl)
          obtain ⟨l9, k9⟩ : ∃ l, DzR u (vs 6) l M0 := hR 6 (by decide) (by kernel_rfl)
          obtain ⟨a9, c9, e9, _⟩ := k9.sc.shape
          rw [e9] at k9
          have HS := Lib.hid (by have h := signed80 u (p2) a9 _ c9 l9 k9.sc k9.dg; rw [k9.eq, HSG.out] at h; exact h : Calls Tryz.prog 80 #[.bool (p2), .slice a9 l9.length c9] u (RetG u Z0))
          clear hR hu k9
          go_wp2_with fail
          refine HS.out.mono ?_
          rintro e11 w11 ⟨v11, rfl, hi11, hb⟩
          go_wp2_with fail
          exact ⟨rfl, rfl, _, _, rfl, rfl, hb, hi11⟩
      · intro vs u hu hR
        have k : IgR u (vs 7) Z0 := hR 7 (by decide)
        have HK := Lib.hid k
        obtain ⟨a9, n9, c9, l9, e9, _⟩ := k
        rw [e9] at HK
        have HZu := Lib.hid (HZ.out.later hu)
        obtain ⟨z0, z1, zf, zz⟩ := HZu.out.v2
        have HBu := Lib.hid (HB.out.trans (hu.mono HB.out.size))
        simp only [putsN, List.drop_succ_cons, List.drop_zero, List.take_succ_cons, List.take_zero, Act.put, List.setIfInBounds_toArray, List.set_cons_succ, List.set_cons_zero, e9]
        clear hR hu e9
        go_wp2_with fail
        refine bodyPost_ret (v := .agg #[.bool (decide (Z0 < 0)), .slice a9 n9 c9]) (by simp [results, Tryz.results140, go_sem, *]) rfl ?_
        refine ⟨_, rfl, IgR.put HK.out HZu.out _ _, ?_⟩
        repeat (first | with_reducible exact HBu.out | with_reducible exact Below.refl _ _ | refine Below.setCell ?_ (by first | (dsimp only; omega) | (simp; done) | (simp; omega)) _ | refine Below.alloc ?_ (by first | omega | (simp; done) | (simp; omega)) _ | refine Below.drew ?_)
end Go.Proofs.YtflchbejjofppaaGreatDoor.Nu
/- Walks: the reference's common. -/
namespace Go.Proofs.YtflchbejjofppaaGreatDoor.Nu
open Go Go.Proofs Go.RowKit Go.Proofs.YtflchbejjofppaaGreatDoor
def DivK (K : Nat) : Prop := ∀ (w : World) (a1 a2 : Option Addr) (n1 n2 c1 c2 : Nat) (l1 l2 : List Nat) (m1 m2 : Nat), DlR w (.slice a1 n1 c1) l1 m1 → DlR w (.slice a2 n2 c2) l2 m2 → l1.length ≤ 900000 → 0 < l2.length → l2.length ≤ K →
  Calls Tryz.prog 108 #[.slice a1 n1 c1, .slice a2 n2 c2] w (RetDd w (m1 / m2) (m1 % m2))
theorem divK_one : DivK 1 := fun w a1 a2 n1 n2 c1 c2 l1 l2 m1 m2 h1 h2 hb h0 hk => div108_one w a1 a2 n1 n2 c1 c2 l1 l2 m1 m2 h1 h2 hb (by omega)
theorem DlR.size {w : World} {a : Option Addr} {n c : Nat} {l : List Nat} {m : Nat} (h : DlR w (.slice a n c) l m) : n = l.length := by
  obtain ⟨a', c', e, _⟩ := h.sc
  injection e
theorem DlR.lt {w w' : World} {v v' : Value} {l l' : List Nat} {m m' K : Nat} (h : DlR w v l m) (h' : DlR w' v' l' m') (hk : l'.length ≤ K) (hm : m ≤ m') : l.length ≤ K :=
  len_le (B := 1000000000) (by decide) h.tr (by
    rw [h.eq]
    have h1 := val_lt h'.dg
    rw [h'.eq] at h1
    have h2 : (1000000000 : Nat) ^ l'.length ≤ 1000000000 ^ K := Nat.pow_le_pow_right (by decide) hk
    omega)
theorem DlR.pos {w : World} {v : Value} {l : List Nat} {m : Nat} (h : DlR w v l m) (hl : 0 < l.length) : 0 < m := by
  have := h.tr.le (B := 1000000000) hl
  rw [h.eq] at this
  have : 0 < (1000000000 : Nat) ^ (l.length - 1) := Nat.pow_pos (by decide)
  omega
theorem DlR.zero {w : World} {v : Value} {l : List Nat} {m : Nat} (h : DlR w v l m) (hl : l.length = 0) : m = 0 := by
  rw [← h.eq, List.eq_nil_of_length_eq_zero hl]; rfl
theorem DlR.uniq {w : World} {v : Value} {l l' : List Nat} {m m' : Nat} (h : DlR w v l m) (h' : DlR w v l' m') : m = m' := by
  obtain ⟨a, c, rfl, _, _, hA⟩ := h.sc
  obtain ⟨a', c', e, _, _, hA'⟩ := h'.sc
  injection e with e1 e2 e3
  subst e1 e3
  have hl : l = l' := by
    apply List.ext_getElem e2
    intro i h1 h2
    obtain ⟨b, off, rfl, _, hc⟩ := hA (by omega)
    obtain ⟨b', off', e, _, hc'⟩ := hA' (by omega)
    cases e
    have k1 := cellD (hc i h1)
    rw [cellD (hc' i h2)] at k1
    injection k1 with k1
    injection k1 with _ k1
    exact Int.ofNat.inj k1.symm
  rw [← h.eq, ← h'.eq, hl]
noncomputable def theN (p : Nat → Prop) : Nat := open Classical in if h : ∃ n, p n then Classical.choose h else 0
theorem theN_eq {p : Nat → Prop} {m : Nat} (h : p m) (hu : ∀ k, p k → k = m) : theN p = m := by
  unfold theN
  rw [dif_pos ⟨m, h⟩]
  exact hu _ (Classical.choose_spec _)
set_option maxRecDepth 100000 in
set_option maxHeartbeats 1000000 in
theorem common77 (w : World) (K : Nat) (hK : DivK K) (hK2 : K ≤ 900000) (a1 a2 : Option Addr) (n1 n2 c1 c2 : Nat) (l1 l2 : List Nat) (m1 m2 : Nat) (h1 : DlR w (.slice a1 n1 c1) l1 m1) (h2 : DlR w (.slice a2 n2 c2) l2 m2) (hb1 : l1.length ≤ 900000) (hb2 : l2.length ≤ K) :
    Calls Tryz.prog 77 #[.slice a1 n1 c1, .slice a2 n2 c2] w (RetDl w (Nat.gcd m1 m2)) := by
  have HK := Lib.hid hK
  obtain ⟨G, hG⟩ : ∃ G, Nat.gcd m1 m2 = G := ⟨_, rfl⟩
  rw [hG]
  have H1 := Lib.hid h1
  have H2 := Lib.hid h2
  clear hK h1 h2
  go_enter Tryz.func77, Tryz.ntmps77
  go_wp2_with fail
  go_loopw [0, 1] (fun x y wr => ∃ (a1 a2 : Option Addr) (n1 n2 c1 c2 : Nat) (l1 l2 : List Nat) (m1 m2 : Nat), x = .slice a1 n1 c1 ∧ y = .slice a2 n2 c2 ∧ DlR wr (.slice a1 n1 c1) l1 m1 ∧ DlR wr (.slice a2 n2 c2) l2 m2 ∧ l1.length ≤ 900000 ∧ l2.length ≤ K ∧ Nat.gcd m1 m2 = G ∧ Below w.heap.size w wr) (fun _ y wr => theN fun m => ∃ l, DlR wr y l m)
  case atStart => exact ⟨_, _, _, _, _, _, l1, l2, m1, m2, rfl, rfl, H1.out, H2.out, hb1, hb2, hG, Below.refl _ _⟩
  case round =>
    clear H1 H2 hb1 hb2 hG
    obtain ⟨a1, a2, n1, n2, c1, c2, l1, l2, m1, m2, rfl, rfl, h1, h2, hb1, hb2, hg, hbe⟩ := hrel
    have H1 := Lib.hid h1
    have H2 := Lib.hid h2
    have HB := Lib.hid hbe
    have HG := Lib.hid hg
    have hn2 := h2.size
    have hl9 : l2.length ≤ 900000 := by omega
    subst hn2
    obtain ⟨N, hN⟩ : ∃ N, l2.length = N := ⟨_, rfl⟩
    rw [hN] at H2 hl9 ⊢
    clear h1 h2 hbe hg
    rcases Nat.eq_zero_or_pos N with h0 | h0
    · subst h0
      have HF := Lib.hid (show G = m1 by rw [← HG.out, H2.out.zero hN]; exact Nat.gcd_zero_right m1)
      clear hN
      go_wp2_with fail
      go_ret
      exact ⟨_, _, _, _, rfl, by rw [HF.out]; exact H1.out, HB.out⟩
    · have k0 : decide (0 < N) = true := decide_eq_true h0
      have HC := Lib.hid (HK.out wr a1 a2 n1 N c1 c2 l1 l2 m1 m2 H1.out H2.out hb1 (by omega) hb2)
      have HM := Lib.hid (H2.out.pos (by omega))
      have HN := Lib.hid hN
      have HL := Lib.hid (And.intro hb2 hl9)
      clear hN h0 hb1 hb2 hl9
      go_wp2_with fail
      refine HC.out.mono ?_
      rintro e4 w4 ⟨a4, n4, c4, l4, a5, n5, c5, l5, rfl, hq, hr, hb⟩
      have HR := Lib.hid hr
      have HQ := Lib.hid (H2.out.later hb)
      have HB4 := Lib.hid (HB.out.trans (hb.mono HB.out.size))
      clear hq hr hb
      go_wp2_with fail
      go_roundw
      case rel => exact ⟨_, _, _, _, _, _, l2, l5, m2, _, rfl, rfl, HQ.out, HR.out, by rw [HN.out]; exact HL.out.2, HR.out.lt HQ.out HL.out.1 (Nat.le_of_lt (Nat.mod_lt _ HM.out)), by rw [← HG.out, Nat.gcd_comm m1 m2, Nat.gcd_rec m2 m1, Nat.gcd_comm], HB4.out⟩
      case measure =>
        show theN (fun m => ∃ l, DlR _ _ l m) < theN (fun m => ∃ l, DlR _ _ l m)
        rw [theN_eq ⟨l5, HR.out⟩ (fun k ⟨l, h⟩ => h.uniq HR.out), theN_eq ⟨l2, H2.out⟩ (fun k ⟨l, h⟩ => h.uniq H2.out)]
        exact Nat.mod_lt _ HM.out
end Go.Proofs.YtflchbejjofppaaGreatDoor.Nu
/- Walks: the reference's fraction. -/
namespace Go.Proofs.YtflchbejjofppaaGreatDoor.Nu
open Go Go.Proofs Go.RowKit Go.Proofs.YtflchbejjofppaaGreatDoor
theorem nd_dec {K m : Nat} (h : m < 1000000000 ^ K) : (Lib.decDigits m).length ≤ 9 * K + 1 :=
  (dec_len_le (k := 9 * K + 1) (by omega)).2 (by
    have e : (1000000000 : Nat) ^ K = 10 ^ (9 * K) := by rw [Nat.pow_mul]
    have : (10 : Nat) ^ (9 * K) ≤ 10 ^ (9 * K + 1) := Nat.pow_le_pow_right (by decide) (by omega)
    omega)
theorem txz_size {K : Nat} {z : Int} (h : Nd K z) : (txz z).size ≤ 9 * K + 2 := by
  unfold txz
  rw [tx_size]
  have h1 := nd_dec h.lt
  rcases Int.lt_or_le z 0 with h0 | h0
  · rw [itoa_ng h0, List.length_cons]; omega
  · rw [itoa_nn h0, toNat_abs h0]; omega
theorem signed_div (n : Int) (g : Nat) : signed (decide (n < 0)) (n.natAbs / g) = n.tdiv (g : Int) := by
  unfold signed
  by_cases h : n < 0
  · rw [if_pos (decide_eq_true h)]
    obtain ⟨m, hm⟩ : ∃ m : Nat, n = -(m : Int) := ⟨n.natAbs, by omega⟩
    subst hm
    rw [Int.neg_tdiv, Int.natAbs_neg, Int.natAbs_natCast, Int.tdiv_eq_ediv_of_nonneg (by omega), Int.natCast_ediv]
  · rw [if_neg (by simpa using h), Int.tdiv_eq_ediv_of_nonneg (by omega), Int.natCast_ediv, show ((n.natAbs : Nat) : Int) = n by omega]
theorem Nd.mono {K : Nat} {z z' : Int} (h : Nd K z) (hz : z'.natAbs ≤ z.natAbs) : Nd K z' := ⟨Nat.lt_of_le_of_lt hz h.lt⟩
theorem Nd.up {K K' : Nat} {z : Int} (h : Nd K z) (hk : K ≤ K') : Nd K' z := ⟨Nat.lt_of_lt_of_le h.lt (Nat.pow_le_pow_right (by decide) hk)⟩
set_option maxRecDepth 100000 in
set_option maxHeartbeats 4000000 in
theorem fraction139 (w : World) (K : Nat) (hK : DivK K) (hK2 : K ≤ 900000) (vn vd : Value) (n d : Int) (hn : IgR w vn n) (hd : IgR w vd d) (hd0 : 0 < d) (b1 : Nd 900000 n) (b2 : Nd K d) :
    Calls Tryz.prog 139 #[vn, vd] w (Ret (.string (txq (mkRat n d.natAbs))) w) := by
  obtain ⟨a1, n1, c1, l1, rfl, h1⟩ := hn.dl
  obtain ⟨a2, n2, c2, l2, rfl, h2⟩ := hd.dl
  have hl1 := h1.le b1
  have hl2 := h2.le b2
  have hdn : 0 < d.natAbs := by omega
  have hgp : 0 < Nat.gcd n.natAbs d.natAbs := Nat.gcd_pos_of_pos_right _ hdn
  have hgd : Nat.gcd n.natAbs d.natAbs ≤ d.natAbs := Nat.gcd_le_right _ hdn
  obtain ⟨e1, e2⟩ := tdiv_gcd n d.natAbs hdn
  have HG := Lib.hid (fun (u : World) (hb : Below w.heap.size w u) => common77 u K hK hK2 a1 a2 n1 n2 c1 c2 l1 l2 _ _ (h1.later hb) (h2.later hb) hl1 hl2)
  have hgl : ∀ (u : World) (a : Option Addr) (m c : Nat) (l : List Nat), DlR u (.slice a m c) l (Nat.gcd n.natAbs d.natAbs) → 0 < l.length ∧ l.length ≤ K := fun u a m c l hg => by
    refine ⟨?_, hg.lt h2 hl2 hgd⟩
    rcases Nat.eq_zero_or_pos l.length with h | h
    · have := hg.zero h; omega
    · exact h
  have HQ1 := Lib.hid (fun (u : World) (hb : Below w.heap.size w u) (a : Option Addr) (m c : Nat) (l : List Nat) (hg : DlR u (.slice a m c) l (Nat.gcd n.natAbs d.natAbs)) => hK u a1 a n1 m c1 c l1 l _ _ (h1.later hb) hg hl1 (hgl u a m c l hg).1 (hgl u a m c l hg).2)
  have HQ2 := Lib.hid (fun (u : World) (hb : Below w.heap.size w u) (a : Option Addr) (m c : Nat) (l : List Nat) (hg : DlR u (.slice a m c) l (Nat.gcd n.natAbs d.natAbs)) => hK u a2 a n2 m c2 c l2 l _ _ (h2.later hb) hg (by omega) (hgl u a m c l hg).1 (hgl u a m c l hg).2)
  have eden : d.natAbs / Nat.gcd n.natAbs d.natAbs = (mkRat n d.natAbs).den := by
    rw [Int.tdiv_eq_ediv_of_nonneg (by omega), ← Int.natCast_ediv] at e2
    exact Int.ofNat.inj e2
  have enum : signed (decide (n < 0)) (n.natAbs / Nat.gcd n.natAbs d.natAbs) = (mkRat n d.natAbs).num := by rw [signed_div, e1]
  have hgn := Nat.div_le_self n.natAbs (Nat.gcd n.natAbs d.natAbs)
  have hgd2 := Nat.div_le_self d.natAbs (Nat.gcd n.natAbs d.natAbs)
  have hp2 : decide (d < 0) = false := decide_eq_false (by omega)
  obtain ⟨p1, hp1⟩ : ∃ p, decide (n < 0) = p := ⟨_, rfl⟩
  rw [hp1] at enum ⊢
  rw [hp2]
  obtain ⟨q, hq⟩ : ∃ q, mkRat n d.natAbs = q := ⟨_, rfl⟩
  rw [hq] at eden enum ⊢
  obtain ⟨G, hG⟩ : ∃ G, Nat.gcd n.natAbs d.natAbs = G := ⟨_, rfl⟩
  rw [hG] at HG HQ1 HQ2 eden enum hgn hgd2
  have hqn : Nd 900000 q.num := b1.mono (by rw [← enum]; rw [signed_abs]; exact hgn)
  have hqd : Nd 900000 (q.den : Int) := (b2.up hK2).mono (by rw [Int.natAbs_natCast, ← eden]; exact hgd2)
  obtain ⟨P, hP⟩ : ∃ P, n.natAbs / G = P := ⟨_, rfl⟩
  rw [hP] at HQ1 enum
  rw [eden] at HQ2
  have HEN := Lib.hid enum
  have HND := Lib.hid (And.intro hqn hqd)
  have HZ1 := Lib.hid (txz_size hqn)
  have HZ2 := Lib.hid (txz_size hqd)
  have HF1 := Lib.hid (show q.den = 1 → txz q.num = txq q from fun e => by
    unfold txz txq; rw [ratL_eq]; unfold fracT; rw [if_pos e, List.append_nil])
  have HF2 := Lib.hid (show q.den ≠ 1 → txz q.num ++ ⟨#[47]⟩ ++ txz (q.den : Int) = txq q from fun e => by
    unfold txz txq; rw [ratL_eq]; unfold fracT; rw [if_neg e, show Lib.itoa (q.den : Int) = Lib.decDigits q.den from by rw [itoa_nn (Int.natCast_nonneg _), Int.toNat_natCast]]
    rw [show (⟨#[47]⟩ : ByteArray) = tx [47] from rfl, tx_app, tx_app]; simp)
  have HDP := Lib.hid q.den_pos
  have HB_0 := Lib.hid ((Below.refl w.heap.size w).alloc (Nat.le_refl _) (.cells #[.bool p1, .slice a1 n1 c1] 99))
  have HB := Lib.hid (HB_0.out.alloc HB_0.out.size (.cells #[.bool false, .slice a2 n2 c2] 99))
  have HX := Lib.hid ((Box.new w #[.bool p1, .slice a1 n1 c1] 99).alloc (.cells #[.bool false, .slice a2 n2 c2] 99))
  have HY := Lib.hid (Box.newAt (w.alloc (.cells #[.bool p1, .slice a1 n1 c1] 99)) #[.bool false, .slice a2 n2 c2] 99 (n := w.heap.size + 1) (by simp))
  obtain ⟨x0, x1, xf, xz⟩ := HX.out.v2
  obtain ⟨y0, y1, yf, yz⟩ := HY.out.v2
  clear HB_0 hn hd h1 h2 hl1 hl2 hdn hgp hgd e1 e2 hgl eden enum hgn hgd2 hp1 hp2 hq hG hqn hqd hP b1 b2 hd0
  go_enter Tryz.func139, Tryz.ntmps139
  go_wp2_with fail
  refine (HG.out _ HB.out).mono ?_
  rintro e4 w4 ⟨a4, n4, c4, l4, rfl, hg4, hb⟩
  have HG4 := Lib.hid hg4
  clear hg4
  replace HB := Lib.hid (HB.out.trans (hb.mono HB.out.size))
  replace HX := Lib.hid (HX.out.later hb)
  replace HY := Lib.hid (HY.out.later hb)
  clear hb x0 x1 xf xz y0 y1 yf yz
  obtain ⟨x0, x1, xf, xz⟩ := HX.out.v2
  obtain ⟨y0, y1, yf, yz⟩ := HY.out.v2
  go_wp2_with fail
  refine (HQ1.out _ HB.out _ _ _ _ HG4.out).mono ?_
  rintro e5 w5 ⟨a5, n5, c5, l5, a6, n6, c6, l6, rfl, hq5, _, hb⟩
  have HP5 := Lib.hid hq5
  replace HG4 := Lib.hid (HG4.out.later hb)
  clear hq5
  replace HB := Lib.hid (HB.out.trans (hb.mono HB.out.size))
  replace HX := Lib.hid (HX.out.later hb)
  replace HY := Lib.hid (HY.out.later hb)
  clear hb x0 x1 xf xz y0 y1 yf yz
  obtain ⟨x0, x1, xf, xz⟩ := HX.out.v2
  obtain ⟨y0, y1, yf, yz⟩ := HY.out.v2
  go_wp2_with fail
  refine (HQ2.out _ HB.out _ _ _ _ HG4.out).mono ?_
  rintro e7 w7 ⟨a7, n7, c7, l7, a8, n8, c8, l8, rfl, hq7, _, hb⟩
  have HD7 := Lib.hid hq7
  replace HP5 := Lib.hid (HP5.out.later hb)
  clear hq7
  replace HB := Lib.hid (HB.out.trans (hb.mono HB.out.size))
  replace HX := Lib.hid (HX.out.later hb)
  replace HY := Lib.hid (HY.out.later hb)
  clear hb x0 x1 xf xz y0 y1 yf yz
  obtain ⟨x0, x1, xf, xz⟩ := HX.out.v2
  obtain ⟨y0, y1, yf, yz⟩ := HY.out.v2
  have HS := Lib.hid (by
    have h := signed80 w7 p1 a5 n5 c5 l5 HP5.out.sc HP5.out.dg
    rw [HP5.out.eq, HEN.out] at h
    exact h : Calls Tryz.prog 80 #[.bool p1, .slice a5 n5 c5] w7 (RetG w7 q.num))
  go_wp2_with fail
  refine HS.out.mono ?_
  rintro e9 w9 ⟨v9, rfl, hi9, hb⟩
  have HT := Lib.hid (text48 w9 v9 q.num hi9 900000 HND.out.1 (by decide))
  replace HD7 := Lib.hid (HD7.out.later hb)
  clear hi9
  replace HB := Lib.hid (HB.out.trans (hb.mono HB.out.size))
  replace HX := Lib.hid (HX.out.later hb)
  replace HY := Lib.hid (HY.out.later hb)
  clear hb x0 x1 xf xz y0 y1 yf yz
  obtain ⟨x0, x1, xf, xz⟩ := HX.out.v2
  obtain ⟨y0, y1, yf, yz⟩ := HY.out.v2
  go_wp2_with fail
  refine HT.out.mono ?_
  rintro e10 w10 ⟨rfl, hb⟩
  replace HD7 := Lib.hid (HD7.out.later hb)
  replace HB := Lib.hid (HB.out.trans (hb.mono HB.out.size))
  replace HX := Lib.hid (HX.out.later hb)
  replace HY := Lib.hid (HY.out.later hb)
  clear hb x0 x1 xf xz y0 y1 yf yz
  obtain ⟨x0, x1, xf, xz⟩ := HX.out.v2
  obtain ⟨y0, y1, yf, yz⟩ := HY.out.v2
  have HSZ7 := Lib.hid (HD7.out.size)
  obtain ⟨N, hN⟩ : ∃ N, n7 = N := ⟨_, rfl⟩
  have s1 := HZ1.out
  have s2 := HZ2.out
  by_cases h1 : l7.length = 1
  · obtain ⟨b, off, rfl, hbb, rfl, hcell, _, hm9⟩ := HD7.out.one h1
    by_cases h2 : q.den = 1
    · have HF := Lib.hid (HF1.out h2)
      rw [h2] at hcell
      generalize txz q.num = S at *
      generalize txz (q.den : Int) = T at *
      clear h1 hm9 h2 hN
      go_wp2_with fail
      go_ret
      exact ⟨by rw [← HF.out]; rfl, HB.out⟩
    · have HF := Lib.hid (HF2.out h2)
      have k1 : ((q.den : Int) == 1) = false := beq_eq_false_iff_ne.2 (by omega)
      have k1' : (q.den == 1) = false := beq_eq_false_iff_ne.2 h2
      have HS8 := Lib.hid (fun (u : World) (hb : Below w10.heap.size w10 u) => (by
        have k := HD7.out.later hb
        have h := signed80 u false _ _ _ l7 k.sc k.dg
        rw [k.eq] at h
        exact h : Calls Tryz.prog 80 #[.bool false, .slice (some ⟨b, off, none⟩) 1 c7] u (RetG u (q.den : Int))))
      have HT8 := Lib.hid (fun (u : World) (v : Value) (h : IgR u v (q.den : Int)) => text48 u v _ h 900000 HND.out.2 (by decide))
      have HBT := Lib.hid HB.out
      clear h1 h2 hN HZ1 HZ2
      obtain ⟨S, hS⟩ : ∃ S, txz q.num = S := ⟨_, rfl⟩
      obtain ⟨T, hT⟩ : ∃ T, txz (q.den : Int) = T := ⟨_, rfl⟩
      rw [hS, hT] at HF
      rw [hT] at HT8 s2
      rw [hS] at s1 ⊢
      have s3 : (⟨#[47]⟩ : ByteArray).size = 1 := rfl
      have s4 : (S ++ ⟨#[47]⟩ : ByteArray).size ≤ 8100003 := by rw [ByteArray.size_append]; omega
      clear hS hT
      go_wp2_with fail
      refine (HS8.out _ (Below.refl _ _)).mono ?_
      rintro e11 w11 ⟨v11, rfl, hi11, hb⟩
      have HT11 := Lib.hid (HT8.out _ _ hi11)
      have HB11 := Lib.hid (HB.out.trans (hb.mono HB.out.size))
      clear hi11 hb
      go_wp2_with fail
      refine HT11.out.mono ?_
      rintro e12 w12 ⟨rfl, hb⟩
      have HB12 := Lib.hid (HB11.out.trans (hb.mono HB11.out.size))
      clear hb
      go_wp2_with fail
      go_ret
      exact ⟨by rw [← HF.out]; rfl, HB12.out⟩
  · have h2 : q.den ≠ 1 := fun h => h1 (by
      have hp := HD7.out
      rw [h] at hp
      have e1 : l7.length ≤ 1 := len_le (B := 1000000000) (by decide) hp.tr (by rw [hp.eq]; decide)
      have e2 : l7.length ≠ 0 := fun e => by have := hp.zero e; omega
      omega)
    have HF := Lib.hid (HF2.out h2)
    have e7 := HSZ7.out
    have k1 : ((n7 : Int) == 1) = false := beq_eq_false_iff_ne.2 (by omega)
    have k1' : (n7 == 1) = false := beq_eq_false_iff_ne.2 (by omega)
    clear e7
    have HS8 := Lib.hid (fun (u : World) (hb : Below w10.heap.size w10 u) => (by
      have k := HD7.out.later hb
      have h := signed80 u false _ _ _ l7 k.sc k.dg
      rw [k.eq] at h
      exact h : Calls Tryz.prog 80 #[.bool false, .slice a7 n7 c7] u (RetG u (q.den : Int))))
    have HT8 := Lib.hid (fun (u : World) (v : Value) (h : IgR u v (q.den : Int)) => text48 u v _ h 900000 HND.out.2 (by decide))
    have HBT := Lib.hid HB.out
    clear h1 h2 hN HZ1 HZ2
    obtain ⟨S, hS⟩ : ∃ S, txz q.num = S := ⟨_, rfl⟩
    obtain ⟨T, hT⟩ : ∃ T, txz (q.den : Int) = T := ⟨_, rfl⟩
    rw [hS, hT] at HF
    rw [hT] at HT8 s2
    rw [hS] at s1 ⊢
    have s3 : (⟨#[47]⟩ : ByteArray).size = 1 := rfl
    have s4 : (S ++ ⟨#[47]⟩ : ByteArray).size ≤ 8100003 := by rw [ByteArray.size_append]; omega
    clear hS hT
    go_wp2_with fail
    refine (HS8.out _ (Below.refl _ _)).mono ?_
    rintro e11 w11 ⟨v11, rfl, hi11, hb⟩
    have HT11 := Lib.hid (HT8.out _ _ hi11)
    have HB11 := Lib.hid (HB.out.trans (hb.mono HB.out.size))
    clear hi11 hb
    go_wp2_with fail
    refine HT11.out.mono ?_
    rintro e12 w12 ⟨rfl, hb⟩
    have HB12 := Lib.hid (HB11.out.trans (hb.mono HB11.out.size))
    clear hb
    go_wp2_with fail
    go_ret
    exact ⟨by rw [← HF.out]; rfl, HB12.out⟩
end Go.Proofs.YtflchbejjofppaaGreatDoor.Nu
