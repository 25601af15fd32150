/- Lemmas on the way to the law TopChanges (part 30): Km -/
import Derived.Test.YtflchbejjofppaaGreatDoorTopChangesP29
set_option linter.unusedVariables false
set_option linter.unusedSimpArgs false

/- Walks: the reference's Add at whole numbers. -/
namespace Go.Proofs.YtflchbejjofppaaGreatDoor.Nu
open Go Go.Proofs Go.RowKit Go.Proofs.YtflchbejjofppaaGreatDoor
theorem quick137_int (z : Int) (h : z.natAbs < 1000000000000000000) : ∃ (n d : Int) (f : Bool), (∀ w : World, Calls Tryz.prog 137 #[.string (txz z)] w fun e w' => e = .returned (.tuple #[.int .i64 n, .int .i64 d, .bool f]) ∧ w = w') ∧ (f = true → z.natAbs < 1000000000) := by
  by_cases h1 : z.natAbs < 1000000000
  · refine ⟨(z : Rat).num, ((z : Rat).den : Int), true, fun w => ?_, fun _ => h1⟩
    have h := quick137_yes w (z : Rat) (qk_int h1)
    rwa [show txq (z : Rat) = txz z from congrArg tx (ratL_int z)] at h
  · exact ⟨0, 0, false, fun w => quick137_no w z (by omega) h, fun h => by cases h⟩
set_option maxRecDepth 100000 in
set_option maxHeartbeats 4000000 in
theorem add109_int (w : World) (a b : Int) (ha : a.natAbs < 400000000000000000) (hb : b.natAbs < 400000000000000000) : Calls Tryz.prog 109 #[.string (txz a), .string (txz b)] w (Ret (.string (txz (a + b))) w) := by
  by_cases hq : a.natAbs < 1000000000 ∧ b.natAbs < 1000000000
  · have h := add109_quick w (a : Rat) (b : Rat) (qk_int hq.1) (qk_int hq.2)
    rwa [← Rat.intCast_add, show txq (a : Rat) = txz a from congrArg tx (ratL_int a), show txq (b : Rat) = txz b from congrArg tx (ratL_int b), show txq ((a + b : Int) : Rat) = txz (a + b) from congrArg tx (ratL_int (a + b))] at h
  obtain ⟨n1, d1, f1, hq1, hf1⟩ := quick137_int a (by omega)
  obtain ⟨n2, d2, f2, hq2, hf2⟩ := quick137_int b (by omega)
  have hff : f1 = false ∨ (f1 = true ∧ f2 = false) := by
    cases f1 with
    | false => exact .inl rfl
    | true =>
      cases f2 with
      | false => exact .inr ⟨rfl, rfl⟩
      | true => exact absurd ⟨hf1 rfl, hf2 rfl⟩ hq
  have HND := Lib.hid (fun (z : Int) (h : z.natAbs < 1000000000000000000) => (nd_small (by omega) (by omega) : Nd 3 z).up (show 3 ≤ 400000 by decide))
  have HA9 := Lib.hid (show a.natAbs < 1000000000000000000 by omega)
  have HB9 := Lib.hid (show b.natAbs < 1000000000000000000 by omega)
  have HQ1 := Lib.hid hq1
  have HQ2 := Lib.hid hq2
  have HP1 := Lib.hid (fun (u : World) => parts76_int u a 400000 (HND.out a HA9.out) (by decide))
  have HP2 := Lib.hid (fun (u : World) => parts76_int u b 400000 (HND.out b HB9.out) (by decide))
  have HT := Lib.hid (fun (u : World) (v1 v2 : Value) (z1 z2 z : Int) (h1 : IgR u v1 z1) (h2 : IgR u v2 z2) (b1 : Nd 400000 z1) (b2 : Nd 400000 z2) (e : z1 * z2 = z) => (by
    have h := times141 u v1 v2 z1 z2 h1 h2 b1 b2
    rwa [e] at h : Calls Tryz.prog 141 #[v1, v2] u (RetG u z)))
  have hab : (a + b).natAbs < 1000000000000000000 := by omega
  have HFR := Lib.hid (fun (u : World) (v1 v2 : Value) (h1 : IgR u v1 (a + b)) (h2 : IgR u v2 1) => (by
    have h := fraction139 u 1 divK_one (by decide) v1 v2 (a + b) 1 h1 h2 (by decide) ((HND.out (a + b) hab).up (by decide)) ⟨by decide⟩
    rw [show mkRat (a + b) (1 : Int).natAbs = ((a + b : Int) : Rat) from Rat.mkRat_one _, show txq ((a + b : Int) : Rat) = txz (a + b) from congrArg tx (ratL_int (a + b))] at h
    exact h : Calls Tryz.prog 139 #[v1, v2] u (Ret (.string (txz (a + b))) u)))
  obtain ⟨S, hS⟩ : ∃ S, txz (a + b) = S := ⟨_, rfl⟩
  obtain ⟨X, hX⟩ : ∃ S, txz a = S := ⟨_, rfl⟩
  obtain ⟨Y, hY⟩ : ∃ S, txz b = S := ⟨_, rfl⟩
  rw [hS] at HFR
  rw [hX] at HQ1 HP1
  rw [hY] at HQ2 HP2
  rw [hS, hX, hY]
  clear hq1 hq2 hf1 hf2 hq ha hb hab hS hX hY
  rcases hff with rfl | ⟨rfl, rfl⟩
  · go_enter Tryz.func109, Tryz.ntmps109
    go_wp2_with fail
    refine (HQ1.out _).mono ?_
    rintro e4 w4 ⟨rfl, rfl⟩
    go_wp2_with fail
    refine (HQ2.out _).mono ?_
    rintro e5 w5 ⟨rfl, rfl⟩
    go_wp2_with fail
    refine (HP1.out _).mono ?_
    rintro e6 w6 ⟨v1, v2, rfl, hi1, hi2, hb⟩
    obtain ⟨q1, a1, n1, c1, rfl⟩ : ∃ p a n c, v1 = .agg #[.bool p, .slice a n c] := by obtain ⟨a, n, c, l, e, _⟩ := hi1; exact ⟨_, a, n, c, e⟩
    obtain ⟨q2, a2, n2, c2, rfl⟩ : ∃ p a n c, v2 = .agg #[.bool p, .slice a n c] := by obtain ⟨a, n, c, l, e, _⟩ := hi2; exact ⟨_, a, n, c, e⟩
    obtain ⟨p1, hp⟩ : ∃ p, p = q1 := ⟨_, rfl⟩
    subst hp
    obtain ⟨p2, hp⟩ : ∃ p, p = q2 := ⟨_, rfl⟩
    subst hp
    have HN6 := Lib.hid (show Below w6.heap.size w6 ((w6.alloc (.cells #[.bool p1, .slice a1 n1 c1] 99)).alloc (.cells #[.bool p2, .slice a2 n2 c2] 99)) from ((Below.refl w6.heap.size w6).alloc (Nat.le_refl _) (.cells #[.bool p1, .slice a1 n1 c1] 99)).alloc (by simp) (.cells #[.bool p2, .slice a2 n2 c2] 99))
    have HX1 := Lib.hid (show Box ((w6.alloc (.cells #[.bool p1, .slice a1 n1 c1] 99)).alloc (.cells #[.bool p2, .slice a2 n2 c2] 99)) (w6.heap.size) 99 [.bool p1, .slice a1 n1 c1] from ((Box.new w6 #[.bool p1, .slice a1 n1 c1] 99).alloc (.cells #[.bool p2, .slice a2 n2 c2] 99)))
    have HX2 := Lib.hid (show Box ((w6.alloc (.cells #[.bool p1, .slice a1 n1 c1] 99)).alloc (.cells #[.bool p2, .slice a2 n2 c2] 99)) (w6.heap.size + 1) 99 [.bool p2, .slice a2 n2 c2] from (Box.newAt (w6.alloc (.cells #[.bool p1, .slice a1 n1 c1] 99)) #[.bool p2, .slice a2 n2 c2] 99 (n := w6.heap.size + 1) (by simp)))
    obtain ⟨W6, hW6⟩ : ∃ W, ((w6.alloc (.cells #[.bool p1, .slice a1 n1 c1] 99)).alloc (.cells #[.bool p2, .slice a2 n2 c2] 99)) = W := ⟨_, rfl⟩
    rw [hW6] at HN6 HX1 HX2
    have HB := Lib.hid (hb.trans (HN6.out.mono hb.size))
    have HI1 := Lib.hid (hi1.later HN6.out)
    have HI2 := Lib.hid (hi2.later HN6.out)
    clear hi1 hi2 hb
    go_wp2_with fail
    clear hW6 HN6
    refine (HP2.out _).mono ?_
    rintro e7 w7 ⟨v3, v4, rfl, hi3, hi4, hb⟩
    obtain ⟨q3, a3, n3, c3, rfl⟩ : ∃ p a n c, v3 = .agg #[.bool p, .slice a n c] := by obtain ⟨a, n, c, l, e, _⟩ := hi3; exact ⟨_, a, n, c, e⟩
    obtain ⟨q4, a4, n4, c4, rfl⟩ : ∃ p a n c, v4 = .agg #[.bool p, .slice a n c] := by obtain ⟨a, n, c, l, e, _⟩ := hi4; exact ⟨_, a, n, c, e⟩
    obtain ⟨p3, hp⟩ : ∃ p, p = q3 := ⟨_, rfl⟩
    subst hp
    obtain ⟨p4, hp⟩ : ∃ p, p = q4 := ⟨_, rfl⟩
    subst hp
    have HN7 := Lib.hid (show Below w7.heap.size w7 ((w7.alloc (.cells #[.bool p3, .slice a3 n3 c3] 99)).alloc (.cells #[.bool p4, .slice a4 n4 c4] 99)) from ((Below.refl w7.heap.size w7).alloc (Nat.le_refl _) (.cells #[.bool p3, .slice a3 n3 c3] 99)).alloc (by simp) (.cells #[.bool p4, .slice a4 n4 c4] 99))
    have HX3 := Lib.hid (show Box ((w7.alloc (.cells #[.bool p3, .slice a3 n3 c3] 99)).alloc (.cells #[.bool p4, .slice a4 n4 c4] 99)) (w7.heap.size) 99 [.bool p3, .slice a3 n3 c3] from ((Box.new w7 #[.bool p3, .slice a3 n3 c3] 99).alloc (.cells #[.bool p4, .slice a4 n4 c4] 99)))
    have HX4 := Lib.hid (show Box ((w7.alloc (.cells #[.bool p3, .slice a3 n3 c3] 99)).alloc (.cells #[.bool p4, .slice a4 n4 c4] 99)) (w7.heap.size + 1) 99 [.bool p4, .slice a4 n4 c4] from (Box.newAt (w7.alloc (.cells #[.bool p3, .slice a3 n3 c3] 99)) #[.bool p4, .slice a4 n4 c4] 99 (n := w7.heap.size + 1) (by simp)))
    obtain ⟨W7, hW7⟩ : ∃ W, ((w7.alloc (.cells #[.bool p3, .slice a3 n3 c3] 99)).alloc (.cells #[.bool p4, .slice a4 n4 c4] 99)) = W := ⟨_, rfl⟩
    rw [hW7] at HN7 HX3 HX4
    replace HX1 := Lib.hid ((HX1.out.later hb).later HN7.out)
    replace HX2 := Lib.hid ((HX2.out.later hb).later HN7.out)
    replace HI1 := Lib.hid ((HI1.out.later hb).later HN7.out)
    replace HI2 := Lib.hid ((HI2.out.later hb).later HN7.out)
    replace HB := Lib.hid ((HB.out.trans (hb.mono HB.out.size)).trans (HN7.out.mono (HB.out.trans (hb.mono HB.out.size)).size))
    have HI3 := Lib.hid (hi3.later HN7.out)
    have HI4 := Lib.hid (hi4.later HN7.out)
    clear hi3 hi4 hb
    go_wp2_with fail
    clear hW7 HN7
    refine wp_region_rel 11 (kindsG [.is (.agg #[.bool p1, .slice a1 n1 c1]), .is (.agg #[.bool p4, .slice a4 n4 c4]), .ig a, .is (.agg #[.bool p3, .slice a3 n3 c3]), .is (.agg #[.bool p2, .slice a2 n2 c2]), .ig b, .ig (a + b), .is (.agg #[.bool p2, .slice a2 n2 c2]), .is (.agg #[.bool p4, .slice a4 n4 c4]), .ig 1, .is (.string S)]) (by kernel_rfl) (by kernel_rfl) (fun j v u u' h hb => Kg.later h hb) ?_ ?_
    · refine ⟨?_, ?_, ?_, ?_, ?_, ?_, ?_, ?_, ?_, ?_, ?_, trivial⟩
      all_goals
        intro vs u hu hR
        simp only [putsN, List.take_succ_cons, List.take_zero, Act.put, List.setIfInBounds_toArray, List.set_cons_succ, List.set_cons_zero]
      · obtain ⟨x0, x1, xf, xz⟩ := (HX1.out.later hu).v2
        clear hR hu
        go_wp2_with fail
        exact ⟨rfl, rfl, _, _, rfl, rfl, Below.refl _ _, rfl⟩
      · obtain ⟨x0, x1, xf, xz⟩ := (HX4.out.later hu).v2
        clear hR hu
        go_wp2_with fail
        exact ⟨rfl, rfl, _, _, rfl, rfl, Below.refl _ _, rfl⟩
      · have e0 : vs 0 = .agg #[.bool p1, .slice a1 n1 c1] := hR 0 (by decide) (by kernel_rfl)
        have e1 : vs 1 = .agg #[.bool p4, .slice a4 n4 c4] := hR 1 (by decide) (by kernel_rfl)
        have HS := Lib.hid (HT.out u _ _ a 1 a (HI1.out.later hu) (HI4.out.later hu) (HND.out a HA9.out) (HND.out 1 (by decide)) (Int.mul_one a))
        clear hR hu 
        go_wp2_with fail
        refine HS.out.mono ?_
        rintro e11 w11 ⟨v11, rfl, hi11, hb⟩
        go_wp2_with fail
        exact ⟨rfl, rfl, _, _, rfl, rfl, hb, hi11⟩
      · obtain ⟨x0, x1, xf, xz⟩ := (HX3.out.later hu).v2
        clear hR hu
        go_wp2_with fail
        exact ⟨rfl, rfl, _, _, rfl, rfl, Below.refl _ _, rfl⟩
      · obtain ⟨x0, x1, xf, xz⟩ := (HX2.out.later hu).v2
        clear hR hu
        go_wp2_with fail
        exact ⟨rfl, rfl, _, _, rfl, rfl, Below.refl _ _, rfl⟩
      · have e3 : vs 3 = .agg #[.bool p3, .slice a3 n3 c3] := hR 3 (by decide) (by kernel_rfl)
        have e4 : vs 4 = .agg #[.bool p2, .slice a2 n2 c2] := hR 4 (by decide) (by kernel_rfl)
        have HS := Lib.hid (HT.out u _ _ b 1 b (HI3.out.later hu) (HI2.out.later hu) (HND.out b HB9.out) (HND.out 1 (by decide)) (Int.mul_one b))
        clear hR hu 
        go_wp2_with fail
        refine HS.out.mono ?_
        rintro e11 w11 ⟨v11, rfl, hi11, hb⟩
        go_wp2_with fail
        exact ⟨rfl, rfl, _, _, rfl, rfl, hb, hi11⟩
      · have k2 : IgR u (vs 2) a := hR 2 (by decide) (by kernel_rfl)
        have k5 : IgR u (vs 5) b := hR 5 (by decide) (by kernel_rfl)
        have HS := Lib.hid (plus140 u _ _ a b k2 k5 ((HND.out a HA9.out).up (by decide)) ((HND.out b HB9.out).up (by decide)))
        clear hR hu k2 k5
        go_wp2_with fail
        refine HS.out.mono ?_
        rintro e11 w11 ⟨v11, rfl, hi11, hb⟩
        go_wp2_with fail
        exact ⟨rfl, rfl, _, _, rfl, rfl, hb, hi11⟩
      · obtain ⟨x0, x1, xf, xz⟩ := (HX2.out.later hu).v2
        clear hR hu
        go_wp2_with fail
        exact ⟨rfl, rfl, _, _, rfl, rfl, Below.refl _ _, rfl⟩
      · obtain ⟨x0, x1, xf, xz⟩ := (HX4.out.later hu).v2
        clear hR hu
        go_wp2_with fail
        exact ⟨rfl, rfl, _, _, rfl, rfl, Below.refl _ _, rfl⟩
      · have e7 : vs 7 = .agg #[.bool p2, .slice a2 n2 c2] := hR 7 (by decide) (by kernel_rfl)
        have e8 : vs 8 = .agg #[.bool p4, .slice a4 n4 c4] := hR 8 (by decide) (by kernel_rfl)
        have HS := Lib.hid (HT.out u _ _ 1 1 1 (HI2.out.later hu) (HI4.out.later hu) (HND.out 1 (by decide)) (HND.out 1 (by decide)) rfl)
        clear hR hu 
        go_wp2_with fail
        refine HS.out.mono ?_
        rintro e11 w11 ⟨v11, rfl, hi11, hb⟩
        go_wp2_with fail
        exact ⟨rfl, rfl, _, _, rfl, rfl, hb, hi11⟩
      · have k6 : IgR u (vs 6) (a + b) := hR 6 (by decide) (by kernel_rfl)
        have k9 : IgR u (vs 9) 1 := hR 9 (by decide) (by kernel_rfl)
        have HS := Lib.hid (HFR.out u _ _ k6 k9)
        clear hR hu k6 k9
        go_wp2_with fail
        refine HS.out.mono ?_
        rintro e11 w11 ⟨rfl, hb⟩
        go_wp2_with fail
        exact ⟨rfl, rfl, _, _, rfl, rfl, hb, rfl⟩
    · intro vs u hu hR
      have e10 : vs 10 = .string S := hR 10 (by decide)
      have HBu := Lib.hid (HB.out.trans (hu.mono HB.out.size))
      simp only [putsN, List.drop_succ_cons, List.drop_zero, List.take_succ_cons, List.take_zero, Act.put, List.setIfInBounds_toArray, List.set_cons_succ, List.set_cons_zero, e10]
      clear hR hu e10
      go_wp2_with fail
      go_ret
      exact ⟨rfl, HBu.out⟩
  · go_enter Tryz.func109, Tryz.ntmps109
    go_wp2_with fail
    refine (HQ1.out _).mono ?_
    rintro e4 w4 ⟨rfl, rfl⟩
    go_wp2_with fail
    refine (HQ2.out _).mono ?_
    rintro e5 w5 ⟨rfl, rfl⟩
    go_wp2_with fail
    refine (HP1.out _).mono ?_
    rintro e6 w6 ⟨v1, v2, rfl, hi1, hi2, hb⟩
    obtain ⟨q1, a1, n1, c1, rfl⟩ : ∃ p a n c, v1 = .agg #[.bool p, .slice a n c] := by obtain ⟨a, n, c, l, e, _⟩ := hi1; exact ⟨_, a, n, c, e⟩
    obtain ⟨q2, a2, n2, c2, rfl⟩ : ∃ p a n c, v2 = .agg #[.bool p, .slice a n c] := by obtain ⟨a, n, c, l, e, _⟩ := hi2; exact ⟨_, a, n, c, e⟩
    obtain ⟨p1, hp⟩ : ∃ p, p = q1 := ⟨_, rfl⟩
    subst hp
    obtain ⟨p2, hp⟩ : ∃ p, p = q2 := ⟨_, rfl⟩
    subst hp
    have HN6 := Lib.hid (show Below w6.heap.size w6 ((w6.alloc (.cells #[.bool p1, .slice a1 n1 c1] 99)).alloc (.cells #[.bool p2, .slice a2 n2 c2] 99)) from ((Below.refl w6.heap.size w6).alloc (Nat.le_refl _) (.cells #[.bool p1, .slice a1 n1 c1] 99)).alloc (by simp) (.cells #[.bool p2, .slice a2 n2 c2] 99))
    have HX1 := Lib.hid (show Box ((w6.alloc (.cells #[.bool p1, .slice a1 n1 c1] 99)).alloc (.cells #[.bool p2, .slice a2 n2 c2] 99)) (w6.heap.size) 99 [.bool p1, .slice a1 n1 c1] from ((Box.new w6 #[.bool p1, .slice a1 n1 c1] 99).alloc (.cells #[.bool p2, .slice a2 n2 c2] 99)))
    have HX2 := Lib.hid (show Box ((w6.alloc (.cells #[.bool p1, .slice a1 n1 c1] 99)).alloc (.cells #[.bool p2, .slice a2 n2 c2] 99)) (w6.heap.size + 1) 99 [.bool p2, .slice a2 n2 c2] from (Box.newAt (w6.alloc (.cells #[.bool p1, .slice a1 n1 c1] 99)) #[.bool p2, .slice a2 n2 c2] 99 (n := w6.heap.size + 1) (by simp)))
    obtain ⟨W6, hW6⟩ : ∃ W, ((w6.alloc (.cells #[.bool p1, .slice a1 n1 c1] 99)).alloc (.cells #[.bool p2, .slice a2 n2 c2] 99)) = W := ⟨_, rfl⟩
    rw [hW6] at HN6 HX1 HX2
    have HB := Lib.hid (hb.trans (HN6.out.mono hb.size))
    have HI1 := Lib.hid (hi1.later HN6.out)
    have HI2 := Lib.hid (hi2.later HN6.out)
    clear hi1 hi2 hb
    go_wp2_with fail
    clear hW6 HN6
    refine (HP2.out _).mono ?_
    rintro e7 w7 ⟨v3, v4, rfl, hi3, hi4, hb⟩
    obtain ⟨q3, a3, n3, c3, rfl⟩ : ∃ p a n c, v3 = .agg #[.bool p, .slice a n c] := by obtain ⟨a, n, c, l, e, _⟩ := hi3; exact ⟨_, a, n, c, e⟩
    obtain ⟨q4, a4, n4, c4, rfl⟩ : ∃ p a n c, v4 = .agg #[.bool p, .slice a n c] := by obtain ⟨a, n, c, l, e, _⟩ := hi4; exact ⟨_, a, n, c, e⟩
    obtain ⟨p3, hp⟩ : ∃ p, p = q3 := ⟨_, rfl⟩
    subst hp
    obtain ⟨p4, hp⟩ : ∃ p, p = q4 := ⟨_, rfl⟩
    subst hp
    have HN7 := Lib.hid (show Below w7.heap.size w7 ((w7.alloc (.cells #[.bool p3, .slice a3 n3 c3] 99)).alloc (.cells #[.bool p4, .slice a4 n4 c4] 99)) from ((Below.refl w7.heap.size w7).alloc (Nat.le_refl _) (.cells #[.bool p3, .slice a3 n3 c3] 99)).alloc (by simp) (.cells #[.bool p4, .slice a4 n4 c4] 99))
    have HX3 := Lib.hid (show Box ((w7.alloc (.cells #[.bool p3, .slice a3 n3 c3] 99)).alloc (.cells #[.bool p4, .slice a4 n4 c4] 99)) (w7.heap.size) 99 [.bool p3, .slice a3 n3 c3] from ((Box.new w7 #[.bool p3, .slice a3 n3 c3] 99).alloc (.cells #[.bool p4, .slice a4 n4 c4] 99)))
    have HX4 := Lib.hid (show Box ((w7.alloc (.cells #[.bool p3, .slice a3 n3 c3] 99)).alloc (.cells #[.bool p4, .slice a4 n4 c4] 99)) (w7.heap.size + 1) 99 [.bool p4, .slice a4 n4 c4] from (Box.newAt (w7.alloc (.cells #[.bool p3, .slice a3 n3 c3] 99)) #[.bool p4, .slice a4 n4 c4] 99 (n := w7.heap.size + 1) (by simp)))
    obtain ⟨W7, hW7⟩ : ∃ W, ((w7.alloc (.cells #[.bool p3, .slice a3 n3 c3] 99)).alloc (.cells #[.bool p4, .slice a4 n4 c4] 99)) = W := ⟨_, rfl⟩
    rw [hW7] at HN7 HX3 HX4
    replace HX1 := Lib.hid ((HX1.out.later hb).later HN7.out)
    replace HX2 := Lib.hid ((HX2.out.later hb).later HN7.out)
    replace HI1 := Lib.hid ((HI1.out.later hb).later HN7.out)
    replace HI2 := Lib.hid ((HI2.out.later hb).later HN7.out)
    replace HB := Lib.hid ((HB.out.trans (hb.mono HB.out.size)).trans (HN7.out.mono (HB.out.trans (hb.mono HB.out.size)).size))
    have HI3 := Lib.hid (hi3.later HN7.out)
    have HI4 := Lib.hid (hi4.later HN7.out)
    clear hi3 hi4 hb
    go_wp2_with fail
    clear hW7 HN7
    refine wp_region_rel 11 (kindsG [.is (.agg #[.bool p1, .slice a1 n1 c1]), .is (.agg #[.bool p4, .slice a4 n4 c4]), .ig a, .is (.agg #[.bool p3, .slice a3 n3 c3]), .is (.agg #[.bool p2, .slice a2 n2 c2]), .ig b, .ig (a + b), .is (.agg #[.bool p2, .slice a2 n2 c2]), .is (.agg #[.bool p4, .slice a4 n4 c4]), .ig 1, .is (.string S)]) (by kernel_rfl) (by kernel_rfl) (fun j v u u' h hb => Kg.later h hb) ?_ ?_
    · refine ⟨?_, ?_, ?_, ?_, ?_, ?_, ?_, ?_, ?_, ?_, ?_, trivial⟩
      all_goals
        intro vs u hu hR
        simp only [putsN, List.take_succ_cons, List.take_zero, Act.put, List.setIfInBounds_toArray, List.set_cons_succ, List.set_cons_zero]
      · obtain ⟨x0, x1, xf, xz⟩ := (HX1.out.later hu).v2
        clear hR hu
        go_wp2_with fail
        exact ⟨rfl, rfl, _, _, rfl, rfl, Below.refl _ _, rfl⟩
      · obtain ⟨x0, x1, xf, xz⟩ := (HX4.out.later hu).v2
        clear hR hu
        go_wp2_with fail
        exact ⟨rfl, rfl, _, _, rfl, rfl, Below.refl _ _, rfl⟩
      · have e0 : vs 0 = .agg #[.bool p1, .slice a1 n1 c1] := hR 0 (by decide) (by kernel_rfl)
        have e1 : vs 1 = .agg #[.bool p4, .slice a4 n4 c4] := hR 1 (by decide) (by kernel_rfl)
        have HS := Lib.hid (HT.out u _ _ a 1 a (HI1.out.later hu) (HI4.out.later hu) (HND.out a HA9.out) (HND.out 1 (by decide)) (Int.mul_one a))
        clear hR hu 
        go_wp2_with fail
        refine HS.out.mono ?_
        rintro e11 w11 ⟨v11, rfl, hi11, hb⟩
        go_wp2_with fail
        exact ⟨rfl, rfl, _, _, rfl, rfl, hb, hi11⟩
      · obtain ⟨x0, x1, xf, xz⟩ := (HX3.out.later hu).v2
        clear hR hu
        go_wp2_with fail
        exact ⟨rfl, rfl, _, _, rfl, rfl, Below.refl _ _, rfl⟩
      · obtain ⟨x0, x1, xf, xz⟩ := (HX2.out.later hu).v2
        clear hR hu
        go_wp2_with fail
        exact ⟨rfl, rfl, _, _, rfl, rfl, Below.refl _ _, rfl⟩
      · have e3 : vs 3 = .agg #[.bool p3, .slice a3 n3 c3] := hR 3 (by decide) (by kernel_rfl)
        have e4 : vs 4 = .agg #[.bool p2, .slice a2 n2 c2] := hR 4 (by decide) (by kernel_rfl)
        have HS := Lib.hid (HT.out u _ _ b 1 b (HI3.out.later hu) (HI2.out.later hu) (HND.out b HB9.out) (HND.out 1 (by decide)) (Int.mul_one b))
        clear hR hu 
        go_wp2_with fail
        refine HS.out.mono ?_
        rintro e11 w11 ⟨v11, rfl, hi11, hb⟩
        go_wp2_with fail
        exact ⟨rfl, rfl, _, _, rfl, rfl, hb, hi11⟩
      · have k2 : IgR u (vs 2) a := hR 2 (by decide) (by kernel_rfl)
        have k5 : IgR u (vs 5) b := hR 5 (by decide) (by kernel_rfl)
        have HS := Lib.hid (plus140 u _ _ a b k2 k5 ((HND.out a HA9.out).up (by decide)) ((HND.out b HB9.out).up (by decide)))
        clear hR hu k2 k5
        go_wp2_with fail
        refine HS.out.mono ?_
        rintro e11 w11 ⟨v11, rfl, hi11, hb⟩
        go_wp2_with fail
        exact ⟨rfl, rfl, _, _, rfl, rfl, hb, hi11⟩
      · obtain ⟨x0, x1, xf, xz⟩ := (HX2.out.later hu).v2
        clear hR hu
        go_wp2_with fail
        exact ⟨rfl, rfl, _, _, rfl, rfl, Below.refl _ _, rfl⟩
      · obtain ⟨x0, x1, xf, xz⟩ := (HX4.out.later hu).v2
        clear hR hu
        go_wp2_with fail
        exact ⟨rfl, rfl, _, _, rfl, rfl, Below.refl _ _, rfl⟩
      · have e7 : vs 7 = .agg #[.bool p2, .slice a2 n2 c2] := hR 7 (by decide) (by kernel_rfl)
        have e8 : vs 8 = .agg #[.bool p4, .slice a4 n4 c4] := hR 8 (by decide) (by kernel_rfl)
        have HS := Lib.hid (HT.out u _ _ 1 1 1 (HI2.out.later hu) (HI4.out.later hu) (HND.out 1 (by decide)) (HND.out 1 (by decide)) rfl)
        clear hR hu 
        go_wp2_with fail
        refine HS.out.mono ?_
        rintro e11 w11 ⟨v11, rfl, hi11, hb⟩
        go_wp2_with fail
        exact ⟨rfl, rfl, _, _, rfl, rfl, hb, hi11⟩
      · have k6 : IgR u (vs 6) (a + b) := hR 6 (by decide) (by kernel_rfl)
        have k9 : IgR u (vs 9) 1 := hR 9 (by decide) (by kernel_rfl)
        have HS := Lib.hid (HFR.out u _ _ k6 k9)
        clear hR hu k6 k9
        go_wp2_with fail
        refine HS.out.mono ?_
        rintro e11 w11 ⟨rfl, hb⟩
        go_wp2_with fail
        exact ⟨rfl, rfl, _, _, rfl, rfl, hb, rfl⟩
    · intro vs u hu hR
      have e10 : vs 10 = .string S := hR 10 (by decide)
      have HBu := Lib.hid (HB.out.trans (hu.mono HB.out.size))
      simp only [putsN, List.drop_succ_cons, List.drop_zero, List.take_succ_cons, List.take_zero, Act.put, List.setIfInBounds_toArray, List.set_cons_succ, List.set_cons_zero, e10]
      clear hR hu e10
      go_wp2_with fail
      go_ret
      exact ⟨rfl, HBu.out⟩
theorem addK_int {a b : Int} (ha : a.natAbs < 400000000000000000) (hb : b.natAbs < 400000000000000000) : AddK (a : Rat) ((-b : Int) : Rat) := fun w => by
  have h := add109_int w a (-b) ha (by omega)
  rwa [← Rat.intCast_add, show txq (a : Rat) = txz a from congrArg tx (ratL_int a), show txq ((-b : Int) : Rat) = txz (-b) from congrArg tx (ratL_int (-b)), show txq ((a + -b : Int) : Rat) = txz (a + -b) from congrArg tx (ratL_int (a + -b))]
end Go.Proofs.YtflchbejjofppaaGreatDoor.Nu
