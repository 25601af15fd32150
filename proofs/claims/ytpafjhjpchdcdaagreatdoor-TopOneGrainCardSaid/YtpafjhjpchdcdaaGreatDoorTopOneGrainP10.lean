/- Lemmas on the way to the law TopOneGrain (part 10): NGa NGb NGc NGd NGe NGf -/
import Derived.Test.YtpafjhjpchdcdaaGreatDoorTopOneGrainP09
import Derived.Lib.Atoi
import Derived.Lib.IndexMore
import Derived.Lib.IndexBytes
import Derived.Lib.Strings
import Derived.Lib.SlTrimSet
set_option linter.unusedVariables false
set_option linter.unusedSimpArgs false

/- Plain: texts of whole numbers. -/
namespace Go.Proofs.YtpafjhjpchdcdaaGreatDoor
open Go.Lib
def tx (l : List UInt8) : ByteArray := ⟨l.toArray⟩
theorem tx_list (l : List UInt8) : (tx l).data.toList = l := by simp [tx]
theorem tx_size (l : List UInt8) : (tx l).size = l.length := by simp [tx, ByteArray.size]
def txz (z : Int) : ByteArray := tx (itoa z)
theorem txz_list (z : Int) : (txz z).data.toList = itoa z := tx_list _
theorem txz_size (z : Int) : (txz z).size = (itoa z).length := tx_size _
theorem itoa_len_le {z : Int} {k : Nat} (hk : 0 < k) (h : z.natAbs < 10 ^ k) : (itoa z).length ≤ k + 1 := by
  by_cases hn : z < 0
  · rw [itoa_ng hn, List.length_cons]
    have := (dec_len_le hk).2 h; omega
  · rw [itoa_nn (by omega)]
    have := (dec_len_le (n := z.toNat) hk).2 (by omega); omega
theorem dec_no45 (n : Nat) : (45 : UInt8) ∉ decDigits n := fun h => absurd (dec_dig n 45 h) (by decide)
theorem itoa_head_nn {z : Int} (h : 0 ≤ z) : (itoa z).head? ≠ some 45 := by
  rw [itoa_nn h]
  intro e
  exact dec_no45 _ (List.mem_of_mem_head? e)
end Go.Proofs.YtpafjhjpchdcdaaGreatDoor
/- Walks: small whole numbers in num.Int. -/
namespace Go.Proofs.YtpafjhjpchdcdaaGreatDoor.Nu
open Go Go.Proofs Go.RowKit Go.Proofs.YtpafjhjpchdcdaaGreatDoor
structure Sm (z : Int) : Prop where
  lo : -4611686018427387904 ≤ z
  hi : z ≤ 4611686018427387904
theorem Sm.wrap {z : Int} (h : Sm z) : IntKind.i64.wrap z = z := IntWalk.i64_in _ (by have := h.lo; have := h.hi; omega)
theorem Sm.neg {z : Int} (h : Sm z) : Sm (-z) := ⟨by have := h.hi; omega, by have := h.lo; omega⟩
set_option maxRecDepth 100000 in
set_option maxHeartbeats 1000000 in
theorem sneg101 (w : World) (z : Int) (h : Sm z) : Calls Tryz.prog 124 #[.agg #[.int .i64 z, .slice none 0 0]] w (Ret (.agg #[.int .i64 (-z), .slice none 0 0]) w) := by
  have hq := fun (w : World) (a : Option Addr) (n c : Nat) => Lib.run_eql_slice_nil w 133 175 a n c 0 0 Tryz.underlying133
  have HB0 := Lib.hid ((Below.refl w.heap.size w).alloc (Nat.le_refl _) (.cells #[.int .i64 z, .slice none 0 0] 135))
  have HB := Lib.hid (HB0.out.alloc HB0.out.size (.cells #[.int .i64 0, .slice none 0 0] 135))
  have HX := Lib.hid ((Box.new w #[.int .i64 z, .slice none 0 0] 135).alloc (.cells #[.int .i64 0, .slice none 0 0] 135))
  have HY := Lib.hid (Box.newAt (w.alloc (.cells #[.int .i64 z, .slice none 0 0] 135)) #[.int .i64 0, .slice none 0 0] 135 (n := w.heap.size + 1) (by simp))
  obtain ⟨x0, x1, xf, xz⟩ := HX.out.v2
  obtain ⟨y0, y1, yf, yz⟩ := HY.out.v2
  have k1 : (z == -9223372036854775808) = false := beq_eq_false_iff_ne.2 (by have := h.lo; omega)
  have k2 : IntKind.i64.wrap (-z) = -z := h.neg.wrap
  clear h HB0
  go_enter Tryz.func124, Tryz.ntmps124
  go_wp2_with fail
  refine bodyPost_ret (v := .agg #[.int .i64 (-z), .slice none 0 0]) (by simp [results, Tryz.results124, go_sem, *]) rfl ?_
  refine Ret.mk rfl ?_
  repeat (first | exact HB.out | exact Below.refl _ _ | refine Below.setCell ?_ (by first | (dsimp only; omega) | (simp; done) | (simp; omega)) _ | refine Below.alloc ?_ (by first | omega | (simp; done) | (simp; omega)) _ | refine Below.drew ?_)
theorem sm_gt (a b : Int) : (decide (a < a + b) == decide (0 < b)) = true := by
  by_cases h : 0 < b
  · rw [decide_eq_true h, decide_eq_true (by omega)]; rfl
  · rw [decide_eq_false h, decide_eq_false (by omega)]; rfl
set_option maxRecDepth 100000 in
set_option maxHeartbeats 1000000 in
theorem sadd70 (w : World) (a b : Int) (h : Sm (a + b)) : Calls Tryz.prog 109 #[.agg #[.int .i64 a, .slice none 0 0], .agg #[.int .i64 b, .slice none 0 0]] w (Ret (.agg #[.int .i64 (a + b), .slice none 0 0]) w) := by
  have hq := fun (w : World) (a : Option Addr) (n c : Nat) => Lib.run_eql_slice_nil w 133 175 a n c 0 0 Tryz.underlying133
  have HB0 := Lib.hid ((Below.refl w.heap.size w).alloc (Nat.le_refl _) (.cells #[.int .i64 a, .slice none 0 0] 135))
  have HB1 := Lib.hid (HB0.out.alloc HB0.out.size (.cells #[.int .i64 b, .slice none 0 0] 135))
  have HB := Lib.hid (HB1.out.alloc HB1.out.size (.cells #[.int .i64 0, .slice none 0 0] 135))
  have HX := Lib.hid (((Box.new w #[.int .i64 a, .slice none 0 0] 135).alloc (.cells #[.int .i64 b, .slice none 0 0] 135)).alloc (.cells #[.int .i64 0, .slice none 0 0] 135))
  have HY := Lib.hid ((Box.newAt (w.alloc (.cells #[.int .i64 a, .slice none 0 0] 135)) #[.int .i64 b, .slice none 0 0] 135 (n := w.heap.size + 1) (by simp)).alloc (.cells #[.int .i64 0, .slice none 0 0] 135))
  have HZ := Lib.hid (Box.newAt ((w.alloc (.cells #[.int .i64 a, .slice none 0 0] 135)).alloc (.cells #[.int .i64 b, .slice none 0 0] 135)) #[.int .i64 0, .slice none 0 0] 135 (n := w.heap.size + 1 + 1) (by simp))
  obtain ⟨x0, x1, xf, xz⟩ := HX.out.v2
  obtain ⟨y0, y1, yf, yz⟩ := HY.out.v2
  obtain ⟨z0, z1', zf, zz⟩ := HZ.out.v2
  have hwr := h.wrap
  have k1 := sm_gt a b
  obtain ⟨z, hz⟩ : ∃ z, a + b = z := ⟨_, rfl⟩
  rw [hz] at hwr k1 ⊢
  rw [← hz] at hwr
  have k2 : IntKind.i64.wrap (a + b) = z := by rw [hwr, hz]
  clear h hz hwr HB0 HB1
  go_enter Tryz.func109, Tryz.ntmps109
  go_wp2_with fail
  refine bodyPost_ret (v := .agg #[.int .i64 z, .slice none 0 0]) (by simp [results, Tryz.results109, go_sem, *]) rfl ?_
  refine Ret.mk rfl ?_
  repeat (first | exact HB.out | exact Below.refl _ _ | refine Below.setCell ?_ (by first | (dsimp only; omega) | (simp; done) | (simp; omega)) _ | refine Below.alloc ?_ (by first | omega | (simp; done) | (simp; omega)) _ | refine Below.drew ?_)
end Go.Proofs.YtpafjhjpchdcdaaGreatDoor.Nu
/- Walks: products and comparisons of small whole numbers; whole fractions. -/
namespace Go.Proofs
theorem YtpafjhjpchdcdaaGreatDoor.Box.w3 {w : World} {b : Nat} {e : TypeId} {x y z : Value} (h : YtpafjhjpchdcdaaGreatDoor.Box w b e [x, y, z]) : w.cell? ⟨b, 0, none⟩ = some x ∧ w.cell? ⟨b, 1, none⟩ = some y ∧ w.cell? ⟨b, 2, none⟩ = some z ∧ (∀ o, w.frozen? ⟨b, o, none⟩ = false) ∧ b < w.heap.size :=
  ⟨h.cell 0, h.cell 1, h.cell 2, h.frozen, h.lt⟩
theorem YtpafjhjpchdcdaaGreatDoor.Box.w4 {w : World} {b : Nat} {e : TypeId} {x y z u : Value} (h : YtpafjhjpchdcdaaGreatDoor.Box w b e [x, y, z, u]) : w.cell? ⟨b, 0, none⟩ = some x ∧ w.cell? ⟨b, 1, none⟩ = some y ∧ w.cell? ⟨b, 2, none⟩ = some z ∧ w.cell? ⟨b, 3, none⟩ = some u ∧ (∀ o, w.frozen? ⟨b, o, none⟩ = false) ∧ b < w.heap.size :=
  ⟨h.cell 0, h.cell 1, h.cell 2, h.cell 3, h.frozen, h.lt⟩
end Go.Proofs
namespace Go.Proofs.YtpafjhjpchdcdaaGreatDoor.Nu
open Go Go.Proofs Go.RowKit Go.Proofs.YtpafjhjpchdcdaaGreatDoor
set_option maxRecDepth 100000 in
set_option maxHeartbeats 4000000 in
theorem smul72 (w : World) (a b : Int) (h1 : Sm a) (h2 : Sm b) (h : Sm (a * b)) : Calls Tryz.prog 111 #[.agg #[.int .i64 a, .slice none 0 0], .agg #[.int .i64 b, .slice none 0 0]] w (Ret (.agg #[.int .i64 (a * b), .slice none 0 0]) w) := by
  have hq := fun (w : World) (a : Option Addr) (n c : Nat) => Lib.run_eql_slice_nil w 133 175 a n c 0 0 Tryz.underlying133
  have HB0 := Lib.hid ((Below.refl w.heap.size w).alloc (Nat.le_refl _) (.cells #[.int .i64 a, .slice none 0 0] 135))
  have HB1 := Lib.hid (HB0.out.alloc HB0.out.size (.cells #[.int .i64 b, .slice none 0 0] 135))
  have HB := Lib.hid (HB1.out.alloc HB1.out.size (.cells #[.int .i64 0, .slice none 0 0] 135))
  have HX := Lib.hid (((Box.new w #[.int .i64 a, .slice none 0 0] 135).alloc (.cells #[.int .i64 b, .slice none 0 0] 135)).alloc (.cells #[.int .i64 0, .slice none 0 0] 135))
  have HY := Lib.hid ((Box.newAt (w.alloc (.cells #[.int .i64 a, .slice none 0 0] 135)) #[.int .i64 b, .slice none 0 0] 135 (n := w.heap.size + 1) (by simp)).alloc (.cells #[.int .i64 0, .slice none 0 0] 135))
  have HZ := Lib.hid (Box.newAt ((w.alloc (.cells #[.int .i64 a, .slice none 0 0] 135)).alloc (.cells #[.int .i64 b, .slice none 0 0] 135)) #[.int .i64 0, .slice none 0 0] 135 (n := w.heap.size + 1 + 1) (by simp))
  obtain ⟨x0, x1, xf, xz⟩ := HX.out.v2
  obtain ⟨y0, y1, yf, yz⟩ := HY.out.v2
  obtain ⟨z0, z1', zf, zz⟩ := HZ.out.v2
  have HSZ := Lib.hid (fun (w : World) (s : Int) (h : s = a ∨ s = b) => size104 s (by have := h1.lo; have := h2.lo; omega) (by have := h1.hi; have := h2.hi; omega) w)
  have HM := Lib.hid (fun (w : World) => Tryz.bits_Mul64 a.natAbs b.natAbs (by have := h1.lo; have := h1.hi; omega) (by have := h2.lo; have := h2.hi; omega) w)
  have hab : a.natAbs * b.natAbs = (a * b).natAbs := (Int.natAbs_mul a b).symm
  have hm1 : (a * b).natAbs ≤ 4611686018427387904 := by have := h.lo; have := h.hi; omega
  obtain ⟨p1, hp1⟩ : ∃ p, decide (a < 0) = p := ⟨_, rfl⟩
  obtain ⟨p2, hp2⟩ : ∃ p, decide (b < 0) = p := ⟨_, rfl⟩
  have hfour : (p1 = true ∧ p2 = false ∧ -((a * b).natAbs : Int) = a * b) ∨ (p1 = false ∧ p2 = true ∧ -((a * b).natAbs : Int) = a * b) ∨ (p1 = true ∧ p2 = true ∧ ((a * b).natAbs : Int) = a * b) ∨ (p1 = false ∧ p2 = false ∧ ((a * b).natAbs : Int) = a * b) := by
    cases p1 <;> cases p2 <;> simp only [decide_eq_true_eq, decide_eq_false_iff_not] at hp1 hp2
    · exact .inr (.inr (.inr ⟨rfl, rfl, by have := Int.mul_nonneg (show 0 ≤ a by omega) (show 0 ≤ b by omega); omega⟩))
    · exact .inr (.inl ⟨rfl, rfl, by have := Int.mul_nonneg (show 0 ≤ a by omega) (show 0 ≤ -b by omega); rw [Int.mul_neg] at this; omega⟩)
    · exact .inl ⟨rfl, rfl, by have := Int.mul_nonneg (show 0 ≤ -a by omega) (show 0 ≤ b by omega); rw [Int.neg_mul] at this; omega⟩
    · exact .inr (.inr (.inl ⟨rfl, rfl, by have := Int.mul_nonneg (show 0 ≤ -a by omega) (show 0 ≤ -b by omega); rw [Int.neg_mul_neg] at this; omega⟩))
  rw [hab] at HM
  obtain ⟨z, hz⟩ : ∃ z, a * b = z := ⟨_, rfl⟩
  rw [hz] at hfour hm1 HM ⊢
  generalize z.natAbs = m at *
  rw [show m / 18446744073709551616 = 0 by omega, show m % 18446744073709551616 = m by omega] at HM
  have k3 : decide ((m : Int) ≤ 9223372036854775807) = true := decide_eq_true (by omega)
  have k4 : IntKind.i64.wrap (m : Int) = m := IntWalk.i64_in _ (by omega)
  have k5 : IntKind.i64.wrap (-(m : Int)) = -m := IntWalk.i64_in _ (by omega)
  have k7 : IntKind.i64.wrap z = z := by rw [← hz]; exact h.wrap
  have k8 : decide (z ≤ 9223372036854775807) = true := decide_eq_true (by rw [← hz]; have := h.hi; omega)
  clear h1 h2 h HB0 HB1 hab hm1 hz
  rcases hfour with ⟨rfl, rfl, k6⟩ | ⟨rfl, rfl, k6⟩ | ⟨rfl, rfl, k6⟩ | ⟨rfl, rfl, k6⟩
  all_goals
    go_enter Tryz.func111, Tryz.ntmps111
    go_wp2_with fail
    refine wp_region_later (by kernel_rfl) (by kernel_rfl) ?_
    repeat go_big_quiet_step ((first | (go_at_call 132; exact Calls.later_same (HSZ.out _ _ (by first | exact .inl rfl | exact .inr rfl))) | (go_at_call 131; exact Calls.later_same ((HM.out _).mono (fun e w' h => ⟨h.1, h.2.symm⟩)))))
    refine wpQuiet_nil ?_
    rintro w4 ⟨⟨_, hb⟩, rfl⟩
    have HB4 := Lib.hid (HB.out.trans (hb.mono HB.out.size))
    have HX4 := Lib.hid (HX.out.later hb)
    have HY4 := Lib.hid (HY.out.later hb)
    have HZ4 := Lib.hid (HZ.out.later hb)
    clear hb x0 x1 xf xz y0 y1 yf yz z0 z1' zf zz
    obtain ⟨x0, x1, xf, xz⟩ := HX4.out.v2
    obtain ⟨y0, y1, yf, yz⟩ := HY4.out.v2
    obtain ⟨z0, z1', zf, zz⟩ := HZ4.out.v2
    go_wp2_with fail
    refine bodyPost_ret (v := .agg #[.int .i64 z, .slice none 0 0]) (by simp [results, Tryz.results111, go_sem, *]) rfl ?_
    refine Ret.mk rfl ?_
    repeat (first | exact HB4.out | exact Below.refl _ _ | refine Below.setCell ?_ (by first | (dsimp only; omega) | (simp; done) | (simp; omega)) _ | refine Below.alloc ?_ (by first | omega | (simp; done) | (simp; omega)) _ | refine Below.drew ?_)
end Go.Proofs.YtpafjhjpchdcdaaGreatDoor.Nu
/- Walks: comparisons of small whole numbers; whole fractions. -/
namespace Go.Proofs.YtpafjhjpchdcdaaGreatDoor.Nu
open Go Go.Proofs Go.RowKit Go.Proofs.YtpafjhjpchdcdaaGreatDoor
def cmpZ (a b : Int) : Int := if a < b then -1 else if b < a then 1 else 0
theorem cmpZ_cases (a b : Int) : (a < b ∧ cmpZ a b = -1) ∨ (a = b ∧ cmpZ a b = 0) ∨ (b < a ∧ cmpZ a b = 1) := by
  unfold cmpZ
  rcases Int.lt_trichotomy a b with h | h | h
  · exact .inl ⟨h, by rw [if_pos h]⟩
  · exact .inr (.inl ⟨h, by rw [if_neg (by omega), if_neg (by omega)]⟩)
  · exact .inr (.inr ⟨h, by rw [if_neg (by omega), if_pos h]⟩)
set_option maxRecDepth 100000 in
set_option maxHeartbeats 1000000 in
theorem scmp83 (w : World) (a b : Int) : Calls Tryz.prog 134 #[.agg #[.int .i64 a, .slice none 0 0], .agg #[.int .i64 b, .slice none 0 0]] w (Ret (.int .i64 (cmpZ a b)) w) := by
  have hq := fun (w : World) (a : Option Addr) (n c : Nat) => Lib.run_eql_slice_nil w 133 175 a n c 0 0 Tryz.underlying133
  have HB_0 := Lib.hid ((Below.refl w.heap.size w).alloc (Nat.le_refl _) (.cells #[.int .i64 a, .slice none 0 0] 135))
  have HB := Lib.hid (HB_0.out.alloc HB_0.out.size (.cells #[.int .i64 b, .slice none 0 0] 135))
  have HX := Lib.hid ((Box.new w #[.int .i64 a, .slice none 0 0] 135).alloc (.cells #[.int .i64 b, .slice none 0 0] 135))
  have HY := Lib.hid (Box.newAt (w.alloc (.cells #[.int .i64 a, .slice none 0 0] 135)) #[.int .i64 b, .slice none 0 0] 135 (n := w.heap.size + 1) (by simp))
  obtain ⟨x0, x1, xf, xz⟩ := HX.out.v2
  obtain ⟨y0, y1, yf, yz⟩ := HY.out.v2
  clear HB_0
  have hway : (decide (a < b) = true ∧ cmpZ a b = -1) ∨ (decide (a < b) = false ∧ decide (b < a) = false ∧ cmpZ a b = 0) ∨ (decide (a < b) = false ∧ decide (b < a) = true ∧ cmpZ a b = 1) := by
    rcases cmpZ_cases a b with ⟨h, e⟩ | ⟨h, e⟩ | ⟨h, e⟩
    · exact .inl ⟨decide_eq_true h, e⟩
    · exact .inr (.inl ⟨decide_eq_false (by omega), decide_eq_false (by omega), e⟩)
    · exact .inr (.inr ⟨decide_eq_false (by omega), decide_eq_true h, e⟩)
  rcases hway with ⟨k1, e⟩ | ⟨k1, k2, e⟩ | ⟨k1, k2, e⟩
  all_goals
    rw [e]
    clear e
    go_enter Tryz.func134, Tryz.ntmps134
    go_wp2_with fail
    go_ret
    exact ⟨rfl, HB.out⟩
set_option maxRecDepth 100000 in
set_option maxHeartbeats 1000000 in
theorem swhole69 (w : World) (a : Int) : Calls Tryz.prog 99 #[.agg #[.int .i64 a, .slice none 0 0]] w (Ret (.agg #[.int .i64 a, .slice none 0 0, .int .i64 1, .slice none 0 0]) w) := by
  have HO := Lib.hid (fun (w1 : World) (n : Int) => of94 n w1)
  have HB_0 := Lib.hid ((Below.refl w.heap.size w).alloc (Nat.le_refl _) (.cells #[.int .i64 a, .slice none 0 0] 135))
  have HB := Lib.hid (HB_0.out.alloc HB_0.out.size (.cells #[.int .i64 0, .slice none 0 0, .int .i64 0, .slice none 0 0] 137))
  have HX := Lib.hid ((Box.new w #[.int .i64 a, .slice none 0 0] 135).alloc (.cells #[.int .i64 0, .slice none 0 0, .int .i64 0, .slice none 0 0] 137))
  have HZ := Lib.hid (Box.newAt (w.alloc (.cells #[.int .i64 a, .slice none 0 0] 135)) #[.int .i64 0, .slice none 0 0, .int .i64 0, .slice none 0 0] 137 (n := w.heap.size + 1) (by simp))
  obtain ⟨x0, x1, xf, xz⟩ := HX.out.v2
  obtain ⟨z0, z1, z2, z3, zf, zz⟩ := HZ.out.w4
  clear HB_0
  go_enter Tryz.func99, Tryz.ntmps99
  go_wp2_with fail
  refine wp_region_head_later 3 (by kernel_rfl) (by kernel_rfl) ?_
  simp only [List.take_succ_cons, List.take_zero, List.drop_succ_cons, List.drop_zero]
  repeat go_big_quiet_step ((go_at_call 100; exact Calls.later (HO.out _ _)))
  refine wpQuiet_nil ?_
  rintro w2 ⟨⟨_, hb2⟩, rfl⟩
  replace HB := Lib.hid (HB.out.trans (hb2.mono HB.out.size))
  replace HX := Lib.hid (HX.out.later hb2)
  replace HZ := Lib.hid (HZ.out.later hb2)
  clear hb2 x0 x1 xf xz z0 z1 z2 z3 zf zz
  obtain ⟨x0, x1, xf, xz⟩ := HX.out.v2
  obtain ⟨z0, z1, z2, z3, zf, zz⟩ := HZ.out.w4
  go_wp2_with fail
  refine bodyPost_ret (v := .agg #[.int .i64 a, .slice none 0 0, .int .i64 1, .slice none 0 0]) (by simp [results, Tryz.results99, go_sem, *]) rfl ?_
  refine Ret.mk rfl ?_
  repeat (first | exact HB.out | exact Below.refl _ _ | refine Below.setCell ?_ (by first | (dsimp only; omega) | (simp; done) | (simp; omega)) _ | refine Below.alloc ?_ (by first | omega | (simp; done) | (simp; omega)) _ | refine Below.drew ?_)
set_option maxRecDepth 100000 in
set_option maxHeartbeats 1000000 in
theorem sisWhole68 (w : World) (a : Int) : Calls Tryz.prog 108 #[.agg #[.int .i64 a, .slice none 0 0, .int .i64 1, .slice none 0 0]] w (Ret (.bool true) w) := by
  have hq := fun (w : World) (a : Option Addr) (n c : Nat) => Lib.run_eql_slice_nil w 133 175 a n c 0 0 Tryz.underlying133
  have HB := Lib.hid ((Below.refl w.heap.size w).alloc (Nat.le_refl _) (.cells #[.int .i64 a, .slice none 0 0, .int .i64 1, .slice none 0 0] 137))
  have HX := Lib.hid (Box.new w #[.int .i64 a, .slice none 0 0, .int .i64 1, .slice none 0 0] 137)
  obtain ⟨x0, x1, x2, x3, xf, xz⟩ := HX.out.w4
  go_enter Tryz.func108, Tryz.ntmps108
  go_wp2_with fail
  go_ret
  exact ⟨rfl, HB.out⟩
set_option maxRecDepth 100000 in
set_option maxHeartbeats 1000000 in
theorem sadd43 (w : World) (a b : Int) (h : Sm (a + b)) : Calls Tryz.prog 93 #[.agg #[.int .i64 a, .slice none 0 0, .int .i64 1, .slice none 0 0], .agg #[.int .i64 b, .slice none 0 0, .int .i64 1, .slice none 0 0]] w (Ret (.agg #[.int .i64 (a + b), .slice none 0 0, .int .i64 1, .slice none 0 0]) w) := by
  have HW := Lib.hid (fun (w1 : World) (z : Int) => sisWhole68 w1 z)
  have HA := Lib.hid (fun (w1 : World) => sadd70 w1 a b h)
  have HV := Lib.hid (fun (w1 : World) (z : Int) => swhole69 w1 z)
  obtain ⟨z, hz⟩ : ∃ z, a + b = z := ⟨_, rfl⟩
  rw [hz] at HA ⊢
  clear hz h
  have HB_0 := Lib.hid ((Below.refl w.heap.size w).alloc (Nat.le_refl _) (.cells #[.int .i64 a, .slice none 0 0, .int .i64 1, .slice none 0 0] 137))
  have HB_1 := Lib.hid (HB_0.out.alloc HB_0.out.size (.cells #[.int .i64 b, .slice none 0 0, .int .i64 1, .slice none 0 0] 137))
  have HB := Lib.hid (HB_1.out.alloc HB_1.out.size (.cells #[.int .i64 0, .slice none 0 0, .int .i64 0, .slice none 0 0] 137))
  have HX := Lib.hid (((Box.new w #[.int .i64 a, .slice none 0 0, .int .i64 1, .slice none 0 0] 137).alloc (.cells #[.int .i64 b, .slice none 0 0, .int .i64 1, .slice none 0 0] 137)).alloc (.cells #[.int .i64 0, .slice none 0 0, .int .i64 0, .slice none 0 0] 137))
  have HY := Lib.hid ((Box.newAt (w.alloc (.cells #[.int .i64 a, .slice none 0 0, .int .i64 1, .slice none 0 0] 137)) #[.int .i64 b, .slice none 0 0, .int .i64 1, .slice none 0 0] 137 (n := w.heap.size + 1) (by simp)).alloc (.cells #[.int .i64 0, .slice none 0 0, .int .i64 0, .slice none 0 0] 137))
  have HZ := Lib.hid (Box.newAt ((w.alloc (.cells #[.int .i64 a, .slice none 0 0, .int .i64 1, .slice none 0 0] 137)).alloc (.cells #[.int .i64 b, .slice none 0 0, .int .i64 1, .slice none 0 0] 137)) #[.int .i64 0, .slice none 0 0, .int .i64 0, .slice none 0 0] 137 (n := w.heap.size + 1 + 1) (by simp))
  obtain ⟨x0, x1, x2, x3, xf, xz⟩ := HX.out.w4
  obtain ⟨y0, y1, y2, y3, yf, yz⟩ := HY.out.w4
  obtain ⟨z0, z1, z2, z3, zf, zz⟩ := HZ.out.w4
  clear HB_0 HB_1
  go_enter Tryz.func93, Tryz.ntmps93
  go_wp2_with fail
  refine (HW.out _ _).mono ?_
  rintro e4 w4 ⟨rfl, hb⟩
  replace HB := Lib.hid (HB.out.trans (hb.mono HB.out.size))
  replace HX := Lib.hid (HX.out.later hb)
  replace HY := Lib.hid (HY.out.later hb)
  replace HZ := Lib.hid (HZ.out.later hb)
  clear hb x0 x1 x2 x3 xf xz y0 y1 y2 y3 yf yz z0 z1 z2 z3 zf zz
  obtain ⟨x0, x1, x2, x3, xf, xz⟩ := HX.out.w4
  obtain ⟨y0, y1, y2, y3, yf, yz⟩ := HY.out.w4
  obtain ⟨z0, z1, z2, z3, zf, zz⟩ := HZ.out.w4
  go_wp2_with fail
  refine (HW.out _ _).mono ?_
  rintro e5 w5 ⟨rfl, hb⟩
  replace HB := Lib.hid (HB.out.trans (hb.mono HB.out.size))
  replace HX := Lib.hid (HX.out.later hb)
  replace HY := Lib.hid (HY.out.later hb)
  replace HZ := Lib.hid (HZ.out.later hb)
  clear hb x0 x1 x2 x3 xf xz y0 y1 y2 y3 yf yz z0 z1 z2 z3 zf zz
  obtain ⟨x0, x1, x2, x3, xf, xz⟩ := HX.out.w4
  obtain ⟨y0, y1, y2, y3, yf, yz⟩ := HY.out.w4
  obtain ⟨z0, z1, z2, z3, zf, zz⟩ := HZ.out.w4
  go_wp2_with fail
  refine (HA.out _).mono ?_
  rintro e6 w6 ⟨rfl, hb⟩
  replace HB := Lib.hid (HB.out.trans (hb.mono HB.out.size))
  replace HX := Lib.hid (HX.out.later hb)
  replace HY := Lib.hid (HY.out.later hb)
  replace HZ := Lib.hid (HZ.out.later hb)
  clear hb x0 x1 x2 x3 xf xz y0 y1 y2 y3 yf yz z0 z1 z2 z3 zf zz
  obtain ⟨x0, x1, x2, x3, xf, xz⟩ := HX.out.w4
  obtain ⟨y0, y1, y2, y3, yf, yz⟩ := HY.out.w4
  obtain ⟨z0, z1, z2, z3, zf, zz⟩ := HZ.out.w4
  go_wp2_with fail
  refine (HV.out _ _).mono ?_
  rintro e7 w7 ⟨rfl, hb⟩
  replace HB := Lib.hid (HB.out.trans (hb.mono HB.out.size))
  replace HX := Lib.hid (HX.out.later hb)
  replace HY := Lib.hid (HY.out.later hb)
  replace HZ := Lib.hid (HZ.out.later hb)
  clear hb x0 x1 x2 x3 xf xz y0 y1 y2 y3 yf yz z0 z1 z2 z3 zf zz
  obtain ⟨x0, x1, x2, x3, xf, xz⟩ := HX.out.w4
  obtain ⟨y0, y1, y2, y3, yf, yz⟩ := HY.out.w4
  obtain ⟨z0, z1, z2, z3, zf, zz⟩ := HZ.out.w4
  go_wp2_with fail
  refine bodyPost_ret (v := .agg #[.int .i64 z, .slice none 0 0, .int .i64 1, .slice none 0 0]) (by simp [results, Tryz.results93, go_sem, *]) rfl ?_
  refine Ret.mk rfl ?_
  repeat (first | exact HB.out | exact Below.refl _ _ | refine Below.setCell ?_ (by first | (dsimp only; omega) | (simp; done) | (simp; omega)) _ | refine Below.alloc ?_ (by first | omega | (simp; done) | (simp; omega)) _ | refine Below.drew ?_)
set_option maxRecDepth 100000 in
set_option maxHeartbeats 1000000 in
theorem scmp54 (w : World) (a b : Int) (h1 : Sm a) (h2 : Sm b) : Calls Tryz.prog 112 #[.agg #[.int .i64 a, .slice none 0 0, .int .i64 1, .slice none 0 0], .agg #[.int .i64 b, .slice none 0 0, .int .i64 1, .slice none 0 0]] w (Ret (.int .i64 (cmpZ a b)) w) := by
  have HM := Lib.hid (fun (w1 : World) (z : Int) (h : z = a ∨ z = b) => (by
    have h := smul72 w1 z 1 (by rcases h with rfl | rfl <;> assumption) ⟨by omega, by omega⟩ (by rw [Int.mul_one]; rcases h with rfl | rfl <;> assumption)
    rwa [Int.mul_one] at h : Calls Tryz.prog 111 #[.agg #[.int .i64 z, .slice none 0 0], .agg #[.int .i64 1, .slice none 0 0]] w1 (Ret (.agg #[.int .i64 z, .slice none 0 0]) w1)))
  have HC := Lib.hid (fun (w1 : World) => scmp83 w1 a b)
  have HB_0 := Lib.hid ((Below.refl w.heap.size w).alloc (Nat.le_refl _) (.cells #[.int .i64 a, .slice none 0 0, .int .i64 1, .slice none 0 0] 137))
  have HB := Lib.hid (HB_0.out.alloc HB_0.out.size (.cells #[.int .i64 b, .slice none 0 0, .int .i64 1, .slice none 0 0] 137))
  have HX := Lib.hid ((Box.new w #[.int .i64 a, .slice none 0 0, .int .i64 1, .slice none 0 0] 137).alloc (.cells #[.int .i64 b, .slice none 0 0, .int .i64 1, .slice none 0 0] 137))
  have HY := Lib.hid (Box.newAt (w.alloc (.cells #[.int .i64 a, .slice none 0 0, .int .i64 1, .slice none 0 0] 137)) #[.int .i64 b, .slice none 0 0, .int .i64 1, .slice none 0 0] 137 (n := w.heap.size + 1) (by simp))
  obtain ⟨x0, x1, x2, x3, xf, xz⟩ := HX.out.w4
  obtain ⟨y0, y1, y2, y3, yf, yz⟩ := HY.out.w4
  clear HB_0
  clear h1 h2
  go_enter Tryz.func112, Tryz.ntmps112
  go_wp2_with fail
  refine wp_region_later (by kernel_rfl) (by kernel_rfl) ?_
  repeat go_big_quiet_step ((first | (go_at_call 111; exact Calls.later (HM.out _ _ (by first | exact .inl rfl | exact .inr rfl))) | (go_at_call 134; exact Calls.later (HC.out _))))
  refine wpQuiet_nil ?_
  rintro w2 ⟨⟨_, hb2⟩, rfl⟩
  have HB2 := Lib.hid (HB.out.trans (hb2.mono HB.out.size))
  clear hb2
  go_wp2_with fail
  go_ret
  exact ⟨rfl, HB2.out⟩
end Go.Proofs.YtpafjhjpchdcdaaGreatDoor.Nu
/- Walks: powers of ten (num.Int.Pow). -/
namespace Go.Proofs.YtpafjhjpchdcdaaGreatDoor.Nu
open Go Go.Proofs Go.RowKit Go.Proofs.YtpafjhjpchdcdaaGreatDoor
theorem pow_sm {r : Nat} (h : r ≤ 18) : Sm ((10 : Int) ^ r) := by
  have h1 : (10 : Int) ^ r ≤ 10 ^ 18 := by
    have := Nat.pow_le_pow_right (show 0 < 10 by decide) h
    have e : ∀ n : Nat, (10 : Int) ^ n = ((10 ^ n : Nat) : Int) := fun n => by rw [Int.natCast_pow]; rfl
    rw [e, e]; omega
  have h2 : (0 : Int) ≤ 10 ^ r := Int.pow_nonneg (by decide)
  exact ⟨by omega, by omega⟩
set_option maxRecDepth 100000 in
set_option maxHeartbeats 4000000 in
theorem spow121 (w : World) (n : Nat) (hn : n ≤ 18) : Calls Tryz.prog 123 #[.agg #[.int .i64 10, .slice none 0 0], .int .i64 (n : Int)] w (Ret (.agg #[.int .i64 (10 ^ n), .slice none 0 0]) w) := by
  have HO := Lib.hid (fun (w1 : World) (n : Int) => of94 n w1)
  have HM := Lib.hid (fun (w1 : World) (r q s : Nat) (h : r + q = s) (hs : s ≤ 18) => (by
    have h := smul72 w1 (10 ^ r) (10 ^ q) (pow_sm (by omega)) (pow_sm (by omega)) (by rw [← Int.pow_add, h]; exact pow_sm hs)
    rw [← Int.pow_add] at h; subst s; exact h : Calls Tryz.prog 111 #[.agg #[.int .i64 (10 ^ r), .slice none 0 0], .agg #[.int .i64 (10 ^ q), .slice none 0 0]] w1 (Ret (.agg #[.int .i64 (10 ^ s), .slice none 0 0]) w1)))
  have HP := Lib.hid (fun (n : Nat) => show (10 : Int) ^ n = 10 ^ n from rfl)
  have HP1 := Lib.hid (show (10 : Int) ^ 1 = 10 ∧ (10 : Int) ^ 0 = 1 from ⟨by decide, by decide⟩)
  obtain ⟨p, hp⟩ : ∃ p : Nat → Int, (fun n => (10 : Int) ^ n) = p := ⟨_, rfl⟩
  have hp' : ∀ n : Nat, (10 : Int) ^ n = p n := fun n => congrFun hp n
  have HM2 := Lib.hid (fun (w1 : World) (r q s : Nat) (h : r + q = s) (hs : s ≤ 18) => (by
    have h := HM.out w1 r q s h hs
    rw [hp' r, hp' q, hp' s] at h; exact h : Calls Tryz.prog 111 #[.agg #[.int .i64 (p r), .slice none 0 0], .agg #[.int .i64 (p q), .slice none 0 0]] w1 (Ret (.agg #[.int .i64 (p s), .slice none 0 0]) w1)))
  rw [hp' 1, hp' 0] at HP1
  rw [hp' n]
  clear HM HP hp hp'
  have HN := Lib.hid hn
  clear hn
  have HB_0 := Lib.hid ((Below.refl w.heap.size w).alloc (Nat.le_refl _) (.cells #[.int .i64 10, .slice none 0 0] 135))
  have HB := Lib.hid (HB_0.out.alloc HB_0.out.size (.cells #[.int .i64 0, .slice none 0 0] 135))
  have HX := Lib.hid ((Box.new w #[.int .i64 10, .slice none 0 0] 135).alloc (.cells #[.int .i64 0, .slice none 0 0] 135))
  have HZ := Lib.hid (Box.newAt (w.alloc (.cells #[.int .i64 10, .slice none 0 0] 135)) #[.int .i64 0, .slice none 0 0] 135 (n := w.heap.size + 1) (by simp))
  obtain ⟨x0, x1, xf, xz⟩ := HX.out.v2
  obtain ⟨z0, z1, zf, zz⟩ := HZ.out.v2
  clear HB_0
  go_enter Tryz.func123, Tryz.ntmps123
  go_wp2_with fail
  refine (HO.out _ _).mono ?_
  rintro e4 w4 ⟨rfl, hb⟩
  replace HB := Lib.hid (HB.out.trans (hb.mono HB.out.size))
  replace HX := Lib.hid (HX.out.later hb)
  replace HZ := Lib.hid (HZ.out.later hb)
  clear hb x0 x1 xf xz z0 z1 zf zz
  obtain ⟨x0, x1, xf, xz⟩ := HX.out.v2
  obtain ⟨z0, z1, zf, zz⟩ := HZ.out.v2
  have HR := Lib.hid (Box.new w4 #[.int .i64 1, .slice none 0 0] 135)
  have HB4 := Lib.hid (HB.out.alloc HB.out.size (.cells #[.int .i64 1, .slice none 0 0] 135))
  have HX4 := Lib.hid (HX.out.alloc (.cells #[.int .i64 1, .slice none 0 0] 135))
  have HZ4 := Lib.hid (HZ.out.alloc (.cells #[.int .i64 1, .slice none 0 0] 135))
  have HLT := Lib.hid (show w.heap.size < w4.heap.size ∧ w.heap.size + 1 < w4.heap.size from ⟨HX.out.lt, HZ.out.lt⟩)
  go_wp2_with fail
  clear x0 x1 xf xz z0 z1 zf zz HX HZ HB
  generalize w4.alloc (.cells #[.int .i64 1, .slice none 0 0] 135) = w5 at *
  generalize w4.heap.size = g at *
  go_loopw [1] (fun i wr => ∃ r q k : Nat, r + q * k = n ∧ q ≠ 0 ∧ i = .int .i64 (k : Int) ∧ Below w.heap.size w wr ∧ Box wr w.heap.size 135 [.int .i64 (p q), .slice none 0 0] ∧ Box wr g 135 [.int .i64 (p r), .slice none 0 0] ∧ Box wr (w.heap.size + 1) 135 [.int .i64 0, .slice none 0 0]) (fun i _ => (intOf i).toNat)
  case atStart => exact ⟨0, 1, n, by omega, by decide, rfl, HB4.out, by rw [HP1.out.1]; exact HX4.out, by rw [HP1.out.2]; exact HR.out, HZ4.out⟩
  case round =>
    obtain ⟨r, q, k, hk, HQ, rfl, hbe, hbx, hbr, hbz⟩ := hrel
    have HX := Lib.hid hbx
    have HR := Lib.hid hbr
    have HZ := Lib.hid hbz
    have HB := Lib.hid hbe
    have HK := Lib.hid hk
    clear hk hbe hbx hbr hbz HX4 HZ4 HB4
    obtain ⟨x0, x1, xf, xz⟩ := HX.out.v2
    obtain ⟨r0, r1, rf, rz⟩ := HR.out.v2
    obtain ⟨z0, z1, zf, zz⟩ := HZ.out.v2
    by_cases h0 : k = 0
    · subst h0
      have e : r = n := by have := HK.out; omega
      subst e
      go_wp2_with fail
      refine bodyPost_ret (v := .agg #[.int .i64 (p r), .slice none 0 0]) (by simp [results, Tryz.results123, go_sem, *]) rfl ?_
      refine Ret.mk rfl ?_
      repeat (first | with_reducible exact HB.out | with_reducible exact Below.refl _ _ | refine Below.setCell ?_ (by first | (dsimp only; omega) | (simp; done) | (simp; omega)) _ | refine Below.alloc ?_ (by first | omega | (simp; done) | (simp; omega)) _ | refine Below.drew ?_)
    · have d0 : decide ((0 : Int) < (k : Int)) = true := decide_eq_true (by omega)
      have hk18 : q = 0 ∨ k ≤ 18 := by
        rcases Nat.eq_zero_or_pos q with h | h
        · exact .inl h
        · have := HK.out; have := HN.out; have := Nat.le_mul_of_pos_left k h; exact .inr (by omega)
      have k1 : (k : Int) / 2 = ((k / 2 : Nat) : Int) := by omega
      have hq1 : q ≠ 0 := HQ
      have hbit : bits BinOp.and IntKind.i64 (k : Int) 1 = ((k % 2 : Nat) : Int) := by
        have : ∀ k : Nat, k < 19 → bits BinOp.and IntKind.i64 (k : Int) 1 = ((k % 2 : Nat) : Int) := by decide
        exact this k (by omega)
      have hd : (k % 2 = 1 ∧ 1 < k) ∨ (k % 2 = 1 ∧ k = 1) ∨ (k % 2 = 0 ∧ 1 < k) := by omega
      obtain ⟨h, hh⟩ : ∃ h, k / 2 = h := ⟨_, rfl⟩
      have HH := Lib.hid (show k = 2 * h + k % 2 by omega)
      rw [hh] at k1
      have HMU := Lib.hid (show q * k = q * 2 * h + q * (k % 2) by rw [Nat.mul_assoc, ← Nat.mul_add, ← HH.out])
      clear hk18 hh
      have hpos : 0 < k := by omega
      have d2 : decide (0 < k) = true := decide_eq_true (by omega)
      clear h0 hq1
      rcases hd with ⟨hp, h1⟩ | ⟨hp, h1⟩ | ⟨hp, h1⟩
      · rw [hp] at hbit HMU
        have d1 : decide ((1 : Int) < (k : Int)) = true := decide_eq_true (by omega)
        have d3 : decide (1 < k) = true := decide_eq_true (by omega)
        clear hp
        go_wp2_with fail
        refine (HM2.out wr r q (r + q) rfl (by have := HK.out; have := HN.out; have := HMU.out; have := Nat.le_mul_of_pos_right q (show 0 < k by omega); omega)).mono ?_
        rintro e6 w6 ⟨rfl, hb⟩
        have HB6 := Lib.hid (HB.out.trans (hb.mono HB.out.size))
        have HX6 := Lib.hid (HX.out.later hb)
        have HR6 := Lib.hid (HR.out.later hb)
        have HZ6 := Lib.hid (HZ.out.later hb)
        clear hb x0 x1 xf xz r0 r1 rf rz z0 z1 zf zz HX HR HZ HB
        have HX := Lib.hid ((HX6.out.other (a := ⟨g, 0, none⟩) (.int .i64 (p (r + q))) (by have := HLT.out; dsimp only; omega)).other (a := ⟨g, 1, none⟩) (.slice none 0 0) (by have := HLT.out; dsimp only; omega))
        have HR := Lib.hid ((HR6.out.set 0 (.int .i64 (p (r + q)))).set 1 (.slice none 0 0))
        have HZ := Lib.hid ((HZ6.out.other (a := ⟨g, 0, none⟩) (.int .i64 (p (r + q))) (by have := HLT.out; dsimp only; omega)).other (a := ⟨g, 1, none⟩) (.slice none 0 0) (by have := HLT.out; dsimp only; omega))
        have HB := Lib.hid ((HB6.out.setCell (p := ⟨g, 0, none⟩) (by have := HLT.out; dsimp only; omega) (.int .i64 (p (r + q)))).setCell (p := ⟨g, 1, none⟩) (by have := HLT.out; dsimp only; omega) (.slice none 0 0))
        obtain ⟨r0, r1, rf, rz⟩ := HR6.out.v2
        obtain ⟨x0, x1, xf, xz⟩ := HX.out.v2
        clear HX6 HZ6 HB6
        go_wp2_with fail
        refine (HM2.out _ q q (q * 2) (by omega) (by have := HK.out; have := HN.out; have := HMU.out; have : q * 2 * 1 ≤ q * 2 * h := Nat.mul_le_mul_left _ (by omega); omega)).mono ?_
        rintro e7 w7 ⟨rfl, hb⟩
        have HB6 := Lib.hid (HB.out.trans (hb.mono HB.out.size))
        have HX6 := Lib.hid (HX.out.later hb)
        have HR6 := Lib.hid (HR.out.later hb)
        have HZ6 := Lib.hid (HZ.out.later hb)
        clear hb x0 x1 xf xz HX HR HZ HB
        try clear r0 r1 rf rz
        try clear z0 z1 zf zz
        obtain ⟨x0, x1, xf, xz⟩ := HX6.out.v2
        go_wp2_with fail
        go_roundw
        case rel =>
          refine ⟨r + q, q * 2, h, by have := HK.out; have := HMU.out; omega, by omega, by go_num, ?_, (HX6.out.set 0 (.int .i64 (p (q * 2)))).set 1 (.slice none 0 0), (HR6.out.other (a := ⟨w.heap.size, 0, none⟩) (.int .i64 (p (q * 2))) (by have := HLT.out; dsimp only; omega)).other (a := ⟨w.heap.size, 1, none⟩) (.slice none 0 0) (by have := HLT.out; dsimp only; omega), (HZ6.out.other (a := ⟨w.heap.size, 0, none⟩) (.int .i64 (p (q * 2))) (by dsimp only; omega)).other (a := ⟨w.heap.size, 1, none⟩) (.slice none 0 0) (by dsimp only; omega)⟩
          repeat (first | with_reducible exact HB6.out | with_reducible exact Below.refl _ _ | refine Below.setCell ?_ (by first | (dsimp only; omega) | (simp; done) | (simp; omega)) _ | refine Below.alloc ?_ (by first | omega | (simp; done) | (simp; omega)) _ | refine Below.drew ?_)
        case measure => simp [intOf]; omega
      · rw [hp] at hbit HMU
        have d1 : decide ((1 : Int) < (k : Int)) = false := decide_eq_false (by omega)
        have d3 : decide (1 < k) = false := decide_eq_false (by omega)
        clear hp
        go_wp2_with fail
        refine (HM2.out wr r q (r + q) rfl (by have := HK.out; have := HN.out; have := HMU.out; have := Nat.le_mul_of_pos_right q (show 0 < k by omega); omega)).mono ?_
        rintro e6 w6 ⟨rfl, hb⟩
        have HB6 := Lib.hid (HB.out.trans (hb.mono HB.out.size))
        have HX6 := Lib.hid (HX.out.later hb)
        have HR6 := Lib.hid (HR.out.later hb)
        have HZ6 := Lib.hid (HZ.out.later hb)
        clear hb x0 x1 xf xz r0 r1 rf rz z0 z1 zf zz HX HR HZ HB
        have HX := Lib.hid ((HX6.out.other (a := ⟨g, 0, none⟩) (.int .i64 (p (r + q))) (by have := HLT.out; dsimp only; omega)).other (a := ⟨g, 1, none⟩) (.slice none 0 0) (by have := HLT.out; dsimp only; omega))
        have HR := Lib.hid ((HR6.out.set 0 (.int .i64 (p (r + q)))).set 1 (.slice none 0 0))
        have HZ := Lib.hid ((HZ6.out.other (a := ⟨g, 0, none⟩) (.int .i64 (p (r + q))) (by have := HLT.out; dsimp only; omega)).other (a := ⟨g, 1, none⟩) (.slice none 0 0) (by have := HLT.out; dsimp only; omega))
        have HB := Lib.hid ((HB6.out.setCell (p := ⟨g, 0, none⟩) (by have := HLT.out; dsimp only; omega) (.int .i64 (p (r + q)))).setCell (p := ⟨g, 1, none⟩) (by have := HLT.out; dsimp only; omega) (.slice none 0 0))
        obtain ⟨r0, r1, rf, rz⟩ := HR6.out.v2
        obtain ⟨x0, x1, xf, xz⟩ := HX.out.v2
        clear HX6 HZ6 HB6
        go_wp2_with fail
        go_roundw
        case rel =>
          have e : h = 0 := by have := HH.out; omega
          subst e
          exact ⟨r + q, q, 0, by have := HK.out; have := HMU.out; omega, HQ, by go_num, HB.out, HX.out, HR.out, HZ.out⟩
        case measure => simp [intOf]; omega
      · rw [hp] at hbit HMU
        have d1 : decide ((1 : Int) < (k : Int)) = true := decide_eq_true (by omega)
        have d3 : decide (1 < k) = true := decide_eq_true (by omega)
        clear hp
        go_wp2_with fail
        refine (HM2.out _ q q (q * 2) (by omega) (by have := HK.out; have := HN.out; have := HMU.out; have : q * 2 * 1 ≤ q * 2 * h := Nat.mul_le_mul_left _ (by omega); omega)).mono ?_
        rintro e7 w7 ⟨rfl, hb⟩
        have HB6 := Lib.hid (HB.out.trans (hb.mono HB.out.size))
        have HX6 := Lib.hid (HX.out.later hb)
        have HR6 := Lib.hid (HR.out.later hb)
        have HZ6 := Lib.hid (HZ.out.later hb)
        clear hb x0 x1 xf xz HX HR HZ HB
        try clear r0 r1 rf rz
        try clear z0 z1 zf zz
        obtain ⟨x0, x1, xf, xz⟩ := HX6.out.v2
        go_wp2_with fail
        go_roundw
        case rel =>
          refine ⟨r, q * 2, h, by have := HK.out; have := HMU.out; omega, by omega, by go_num, ?_, (HX6.out.set 0 (.int .i64 (p (q * 2)))).set 1 (.slice none 0 0), (HR6.out.other (a := ⟨w.heap.size, 0, none⟩) (.int .i64 (p (q * 2))) (by have := HLT.out; dsimp only; omega)).other (a := ⟨w.heap.size, 1, none⟩) (.slice none 0 0) (by have := HLT.out; dsimp only; omega), (HZ6.out.other (a := ⟨w.heap.size, 0, none⟩) (.int .i64 (p (q * 2))) (by dsimp only; omega)).other (a := ⟨w.heap.size, 1, none⟩) (.slice none 0 0) (by dsimp only; omega)⟩
          repeat (first | with_reducible exact HB6.out | with_reducible exact Below.refl _ _ | refine Below.setCell ?_ (by first | (dsimp only; omega) | (simp; done) | (simp; omega)) _ | refine Below.alloc ?_ (by first | omega | (simp; done) | (simp; omega)) _ | refine Below.drew ?_)
        case measure => simp [intOf]; omega
end Go.Proofs.YtpafjhjpchdcdaaGreatDoor.Nu
/- Plain: what the library's functions on texts make of numerals. -/
namespace Go.Proofs.YtpafjhjpchdcdaaGreatDoor
open Go.Lib
theorem decFrom_dig : ∀ (l : List UInt8) (a : Nat), (∀ c ∈ l, isDig c) → decFrom a l = some (l.foldl (fun n c => 10 * n + (c.toNat - 48)) a) := by
  intro l
  induction l with
  | nil => intro a _; rfl
  | cons c l ih =>
    intro a h
    have hc := h c List.mem_cons_self
    obtain ⟨hc1, hc2⟩ := hc
    unfold decFrom digitVal
    rw [if_pos (show 48 ≤ c.toNat ∧ c.toNat ≤ 57 from ⟨hc1, hc2⟩)]
    simp only [List.foldl_cons]
    rw [Nat.mul_comm a 10]
    exact ih _ (fun x hx => h x (List.mem_cons_of_mem _ hx))
theorem atoi_dig {l : List UInt8} (h : ∀ c ∈ l, isDig c) (h0 : l ≠ []) : atoi l = some (dval l : Int) := by
  cases l with
  | nil => exact absurd rfl h0
  | cons b r =>
    have hb := h b List.mem_cons_self
    have e1 : (b == 45) = false := beq_eq_false_iff_ne.2 (by rintro rfl; exact absurd hb (by decide))
    have e2 : (b == 43) = false := beq_eq_false_iff_ne.2 (by rintro rfl; exact absurd hb (by decide))
    unfold atoi
    dsimp only
    rw [e1, e2]
    simp only [Bool.false_eq_true, if_false]
    unfold decNat
    rw [if_neg (by simp), decFrom_dig _ _ h]
    rfl
theorem hasPrefix_one (l : List UInt8) (c : UInt8) : hasPrefix l [c] = decide (l.head? = some c) := by
  unfold hasPrefix
  cases l with
  | nil => simp [List.isPrefixOf]
  | cons b l =>
    simp only [List.isPrefixOf, List.head?_cons, Option.some.injEq, Bool.and_true]
    by_cases h : c = b
    · subst h; simp
    · rw [decide_eq_false (fun e => h e.symm)]; simpa using h
theorem hasPrefix_itoa (z : Int) : hasPrefix (itoa z) [45] = decide (z < 0) := by
  rw [hasPrefix_one]
  by_cases h : z < 0
  · rw [itoa_ng h, decide_eq_true h]; simp
  · rw [decide_eq_false h, decide_eq_false (itoa_head_nn (by omega))]
theorem trimPrefix_itoa (z : Int) : trimPrefix (itoa z) [45] = decDigits z.natAbs := by
  unfold trimPrefix
  rw [hasPrefix_itoa]
  by_cases h : z < 0
  · rw [decide_eq_true h, itoa_ng h]; rfl
  · rw [decide_eq_false h, itoa_nn (by omega), show z.toNat = z.natAbs by omega]; rfl
theorem indexByte_none {l : List UInt8} {c : UInt8} (h : c ∉ l) : indexByte l c = -1 := by
  induction l with
  | nil => rfl
  | cons b l ih =>
    unfold indexByte
    rw [if_neg (by simp; rintro rfl; exact h List.mem_cons_self), ih (fun hx => h (List.mem_cons_of_mem _ hx))]
    rfl
theorem cut_none {l : List UInt8} {c : UInt8} (h : c ∉ l) : cut l [c] = (l, [], false) := by
  unfold cut
  rw [index_one, indexByte_none h]
  rfl
theorem cut_itoa (z : Int) : cut (itoa z) [47] = (itoa z, [], false) := cut_none (itoa_slash z)
def digT : List UInt8 := [48, 49, 50, 51, 52, 53, 54, 55, 56, 57]
theorem digT_mem {c : UInt8} (h : isDig c) : digT.contains c = true := by
  obtain ⟨h1, h2⟩ := h
  have hc : c = UInt8.ofNat c.toNat := by simp
  rw [hc]
  generalize c.toNat = n at *
  have : ∀ n : Nat, n < 58 → 48 ≤ n → digT.contains (UInt8.ofNat n) = true := by decide
  exact this n (by omega) h1
theorem dropWhile_all {α : Type} {p : α → Bool} {l : List α} (h : ∀ x ∈ l, p x = true) : l.dropWhile p = [] := by
  induction l with
  | nil => rfl
  | cons x l ih => rw [List.dropWhile_cons, if_pos (h x List.mem_cons_self)]; exact ih (fun y hy => h y (List.mem_cons_of_mem _ hy))
theorem trimS_dig {l : List UInt8} (h : ∀ c ∈ l, isDig c) : trimS l digT = [] := by
  unfold trimS trimRightS trimLeftS
  rw [dropWhile_all (l := l.reverse) (fun x hx => digT_mem (h x (List.mem_reverse.1 hx)))]
  rfl
end Go.Proofs.YtpafjhjpchdcdaaGreatDoor
