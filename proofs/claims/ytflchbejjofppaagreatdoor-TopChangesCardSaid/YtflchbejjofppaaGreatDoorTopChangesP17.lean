/- Lemmas on the way to the law TopChanges (part 17): Ga Gb Gc Gd -/
import Derived.Test.YtflchbejjofppaaGreatDoorTopChangesP16
set_option linter.unusedVariables false
set_option linter.unusedSimpArgs false

/- Plain: texts of whole numbers. -/
namespace Go.Proofs.YtflchbejjofppaaGreatDoor
open Go.Lib
def tx (l : List UInt8) : ByteArray := ⟨l.toArray⟩
theorem tx_list (l : List UInt8) : (tx l).data.toList = l := by simp [tx]
theorem tx_size (l : List UInt8) : (tx l).size = l.length := by simp [tx, ByteArray.size]
def txz (z : Int) : ByteArray := tx (itoa z)
def txq (q : Rat) : ByteArray := tx (ratL q)
theorem txz_list (z : Int) : (txz z).data.toList = itoa z := tx_list _
theorem txz_size (z : Int) : (txz z).size = (itoa z).length := tx_size _
theorem txq_int (z : Int) : txq (z : Rat) = txz z := by unfold txq txz; rw [ratL_int]
theorem itoa_len_le {z : Int} {k : Nat} (hk : 0 < k) (h : z.natAbs < 10 ^ k) : (itoa z).length ≤ k + 1 := by
  by_cases hn : z < 0
  · rw [itoa_ng hn, List.length_cons]
    have := (dec_len_le hk).2 h; omega
  · rw [itoa_nn (by omega)]
    have := (dec_len_le (n := z.toNat) hk).2 (by omega); omega
theorem dec_no45 (n : Nat) : (45 : UInt8) ∉ decDigits n := fun h => absurd (dec_dig n 45 h) (by decide)
theorem itoa_head_nn {z : Int} (h : 0 ≤ z) : (itoa z).head? ≠ some 45 := by
  rw [itoa_nn h]
  intro e
  exact dec_no45 _ (List.mem_of_mem_head? e)
def padTo (k : Nat) (l : List UInt8) : List UInt8 := List.replicate (k - l.length) 48 ++ l
theorem padTo_one (n : Nat) : padTo 1 (decDigits n) = decDigits n := by
  unfold padTo; rw [show 1 - (decDigits n).length = 0 by have := dec_pos_len n; omega]; rfl
theorem padTo_pad {k n : Nat} (h : n < 10 ^ k) (hk : 0 < k) : padTo k (decDigits n) = padL k n := (padL_dec k n h hk).symm
theorem padL_end {k n least : Nat} (h : n < 10 ^ k) (hl : least ≤ k) (hl0 : 0 < least) (hk : k = least ∨ 10 ^ (k - 1) ≤ n) : padL k n = padTo least (decDigits n) := by
  have hk0 : 0 < k := by omega
  rw [padL_dec k n h hk0]
  unfold padTo
  rcases hk with rfl | hk
  · rfl
  · have h1 := (dec_len_le hk0).2 h
    have h2 : k ≤ (decDigits n).length := by
      rcases Nat.lt_or_ge (decDigits n).length k with h3 | h3
      · rcases Nat.eq_zero_or_pos (k - 1) with h4 | h4
        · have := dec_pos_len n; omega
        · have := (dec_len_le h4).1 (show (decDigits n).length ≤ k - 1 by omega); omega
      · exact h3
    rw [show k - (decDigits n).length = 0 by omega, show least - (decDigits n).length = 0 by omega]
end Go.Proofs.YtflchbejjofppaaGreatDoor
/- Walks: small whole numbers in num.Int. -/
namespace Go.Proofs.YtflchbejjofppaaGreatDoor.Nu
open Go Go.Proofs Go.RowKit Go.Proofs.YtflchbejjofppaaGreatDoor
structure Sm (z : Int) : Prop where
  lo : -4611686018427387904 ≤ z
  hi : z ≤ 4611686018427387904
theorem Sm.wrap {z : Int} (h : Sm z) : IntKind.i64.wrap z = z := IntWalk.i64_in _ (by have := h.lo; have := h.hi; omega)
theorem Sm.neg {z : Int} (h : Sm z) : Sm (-z) := ⟨by have := h.hi; omega, by have := h.lo; omega⟩
set_option maxRecDepth 100000 in
set_option maxHeartbeats 1000000 in
theorem sneg101 (w : World) (z : Int) (h : Sm z) : Calls Tryz.prog 101 #[.agg #[.int .i64 z, .slice none 0 0]] w (Ret (.agg #[.int .i64 (-z), .slice none 0 0]) w) := by
  have hq := fun (w : World) (a : Option Addr) (n c : Nat) => Lib.run_eql_slice_nil w 79 157 a n c 0 0 Tryz.underlying79
  have HB0 := Lib.hid ((Below.refl w.heap.size w).alloc (Nat.le_refl _) (.cells #[.int .i64 z, .slice none 0 0] 81))
  have HB := Lib.hid (HB0.out.alloc HB0.out.size (.cells #[.int .i64 0, .slice none 0 0] 81))
  have HX := Lib.hid ((Box.new w #[.int .i64 z, .slice none 0 0] 81).alloc (.cells #[.int .i64 0, .slice none 0 0] 81))
  have HY := Lib.hid (Box.newAt (w.alloc (.cells #[.int .i64 z, .slice none 0 0] 81)) #[.int .i64 0, .slice none 0 0] 81 (n := w.heap.size + 1) (by simp))
  obtain ⟨x0, x1, xf, xz⟩ := HX.out.v2
  obtain ⟨y0, y1, yf, yz⟩ := HY.out.v2
  have k1 : (z == -9223372036854775808) = false := beq_eq_false_iff_ne.2 (by have := h.lo; omega)
  have k2 : IntKind.i64.wrap (-z) = -z := h.neg.wrap
  clear h HB0
  go_enter Tryz.func101, Tryz.ntmps101
  go_wp2_with fail
  refine bodyPost_ret (v := .agg #[.int .i64 (-z), .slice none 0 0]) (by simp [results, Tryz.results101, go_sem, *]) rfl ?_
  refine Ret.mk rfl ?_
  repeat (first | exact HB.out | exact Below.refl _ _ | refine Below.setCell ?_ (by first | (dsimp only; omega) | (simp; done) | (simp; omega)) _ | refine Below.alloc ?_ (by first | omega | (simp; done) | (simp; omega)) _ | refine Below.drew ?_)
theorem sm_gt (a b : Int) : (decide (a < a + b) == decide (0 < b)) = true := by
  by_cases h : 0 < b
  · rw [decide_eq_true h, decide_eq_true (by omega)]; rfl
  · rw [decide_eq_false h, decide_eq_false (by omega)]; rfl
set_option maxRecDepth 100000 in
set_option maxHeartbeats 1000000 in
theorem sadd70 (w : World) (a b : Int) (h : Sm (a + b)) : Calls Tryz.prog 70 #[.agg #[.int .i64 a, .slice none 0 0], .agg #[.int .i64 b, .slice none 0 0]] w (Ret (.agg #[.int .i64 (a + b), .slice none 0 0]) w) := by
  have hq := fun (w : World) (a : Option Addr) (n c : Nat) => Lib.run_eql_slice_nil w 79 157 a n c 0 0 Tryz.underlying79
  have HB0 := Lib.hid ((Below.refl w.heap.size w).alloc (Nat.le_refl _) (.cells #[.int .i64 a, .slice none 0 0] 81))
  have HB1 := Lib.hid (HB0.out.alloc HB0.out.size (.cells #[.int .i64 b, .slice none 0 0] 81))
  have HB := Lib.hid (HB1.out.alloc HB1.out.size (.cells #[.int .i64 0, .slice none 0 0] 81))
  have HX := Lib.hid (((Box.new w #[.int .i64 a, .slice none 0 0] 81).alloc (.cells #[.int .i64 b, .slice none 0 0] 81)).alloc (.cells #[.int .i64 0, .slice none 0 0] 81))
  have HY := Lib.hid ((Box.newAt (w.alloc (.cells #[.int .i64 a, .slice none 0 0] 81)) #[.int .i64 b, .slice none 0 0] 81 (n := w.heap.size + 1) (by simp)).alloc (.cells #[.int .i64 0, .slice none 0 0] 81))
  have HZ := Lib.hid (Box.newAt ((w.alloc (.cells #[.int .i64 a, .slice none 0 0] 81)).alloc (.cells #[.int .i64 b, .slice none 0 0] 81)) #[.int .i64 0, .slice none 0 0] 81 (n := w.heap.size + 1 + 1) (by simp))
  obtain ⟨x0, x1, xf, xz⟩ := HX.out.v2
  obtain ⟨y0, y1, yf, yz⟩ := HY.out.v2
  obtain ⟨z0, z1', zf, zz⟩ := HZ.out.v2
  have hwr := h.wrap
  have k1 := sm_gt a b
  obtain ⟨z, hz⟩ : ∃ z, a + b = z := ⟨_, rfl⟩
  rw [hz] at hwr k1 ⊢
  rw [← hz] at hwr
  have k2 : IntKind.i64.wrap (a + b) = z := by rw [hwr, hz]
  clear h hz hwr HB0 HB1
  go_enter Tryz.func70, Tryz.ntmps70
  go_wp2_with fail
  refine bodyPost_ret (v := .agg #[.int .i64 z, .slice none 0 0]) (by simp [results, Tryz.results70, go_sem, *]) rfl ?_
  refine Ret.mk rfl ?_
  repeat (first | exact HB.out | exact Below.refl _ _ | refine Below.setCell ?_ (by first | (dsimp only; omega) | (simp; done) | (simp; omega)) _ | refine Below.alloc ?_ (by first | omega | (simp; done) | (simp; omega)) _ | refine Below.drew ?_)
end Go.Proofs.YtflchbejjofppaaGreatDoor.Nu
/- Walks: products and comparisons of small whole numbers; whole fractions. -/
namespace Go.Proofs
theorem YtflchbejjofppaaGreatDoor.Box.w3 {w : World} {b : Nat} {e : TypeId} {x y z : Value} (h : YtflchbejjofppaaGreatDoor.Box w b e [x, y, z]) : w.cell? ⟨b, 0, none⟩ = some x ∧ w.cell? ⟨b, 1, none⟩ = some y ∧ w.cell? ⟨b, 2, none⟩ = some z ∧ (∀ o, w.frozen? ⟨b, o, none⟩ = false) ∧ b < w.heap.size :=
  ⟨h.cell 0, h.cell 1, h.cell 2, h.frozen, h.lt⟩
theorem YtflchbejjofppaaGreatDoor.Box.w4 {w : World} {b : Nat} {e : TypeId} {x y z u : Value} (h : YtflchbejjofppaaGreatDoor.Box w b e [x, y, z, u]) : w.cell? ⟨b, 0, none⟩ = some x ∧ w.cell? ⟨b, 1, none⟩ = some y ∧ w.cell? ⟨b, 2, none⟩ = some z ∧ w.cell? ⟨b, 3, none⟩ = some u ∧ (∀ o, w.frozen? ⟨b, o, none⟩ = false) ∧ b < w.heap.size :=
  ⟨h.cell 0, h.cell 1, h.cell 2, h.cell 3, h.frozen, h.lt⟩
theorem YtflchbejjofppaaGreatDoor.Box.w8 {w : World} {b : Nat} {e : TypeId} {x0 x1 x2 x3 x4 x5 x6 x7 : Value} (h : YtflchbejjofppaaGreatDoor.Box w b e [x0, x1, x2, x3, x4, x5, x6, x7]) : w.cell? ⟨b, 0, none⟩ = some x0 ∧ w.cell? ⟨b, 1, none⟩ = some x1 ∧ w.cell? ⟨b, 2, none⟩ = some x2 ∧ w.cell? ⟨b, 3, none⟩ = some x3 ∧ w.cell? ⟨b, 4, none⟩ = some x4 ∧ w.cell? ⟨b, 5, none⟩ = some x5 ∧ w.cell? ⟨b, 6, none⟩ = some x6 ∧ w.cell? ⟨b, 7, none⟩ = some x7 ∧ (∀ o, w.frozen? ⟨b, o, none⟩ = false) ∧ b < w.heap.size :=
  ⟨h.cell 0, h.cell 1, h.cell 2, h.cell 3, h.cell 4, h.cell 5, h.cell 6, h.cell 7, h.frozen, h.lt⟩
end Go.Proofs
namespace Go.Proofs.YtflchbejjofppaaGreatDoor.Nu
open Go Go.Proofs Go.RowKit Go.Proofs.YtflchbejjofppaaGreatDoor
set_option maxRecDepth 100000 in
set_option maxHeartbeats 4000000 in
theorem smul72 (w : World) (a b : Int) (h1 : Sm a) (h2 : Sm b) (h : Sm (a * b)) : Calls Tryz.prog 72 #[.agg #[.int .i64 a, .slice none 0 0], .agg #[.int .i64 b, .slice none 0 0]] w (Ret (.agg #[.int .i64 (a * b), .slice none 0 0]) w) := by
  have hq := fun (w : World) (a : Option Addr) (n c : Nat) => Lib.run_eql_slice_nil w 79 157 a n c 0 0 Tryz.underlying79
  have HB0 := Lib.hid ((Below.refl w.heap.size w).alloc (Nat.le_refl _) (.cells #[.int .i64 a, .slice none 0 0] 81))
  have HB1 := Lib.hid (HB0.out.alloc HB0.out.size (.cells #[.int .i64 b, .slice none 0 0] 81))
  have HB := Lib.hid (HB1.out.alloc HB1.out.size (.cells #[.int .i64 0, .slice none 0 0] 81))
  have HX := Lib.hid (((Box.new w #[.int .i64 a, .slice none 0 0] 81).alloc (.cells #[.int .i64 b, .slice none 0 0] 81)).alloc (.cells #[.int .i64 0, .slice none 0 0] 81))
  have HY := Lib.hid ((Box.newAt (w.alloc (.cells #[.int .i64 a, .slice none 0 0] 81)) #[.int .i64 b, .slice none 0 0] 81 (n := w.heap.size + 1) (by simp)).alloc (.cells #[.int .i64 0, .slice none 0 0] 81))
  have HZ := Lib.hid (Box.newAt ((w.alloc (.cells #[.int .i64 a, .slice none 0 0] 81)).alloc (.cells #[.int .i64 b, .slice none 0 0] 81)) #[.int .i64 0, .slice none 0 0] 81 (n := w.heap.size + 1 + 1) (by simp))
  obtain ⟨x0, x1, xf, xz⟩ := HX.out.v2
  obtain ⟨y0, y1, yf, yz⟩ := HY.out.v2
  obtain ⟨z0, z1', zf, zz⟩ := HZ.out.v2
  have HSZ := Lib.hid (fun (w : World) (s : Int) (h : s = a ∨ s = b) => size104 s (by have := h1.lo; have := h2.lo; omega) (by have := h1.hi; have := h2.hi; omega) w)
  have HM := Lib.hid (fun (w : World) => Tryz.bits_Mul64 a.natAbs b.natAbs (by have := h1.lo; have := h1.hi; omega) (by have := h2.lo; have := h2.hi; omega) w)
  have hab : a.natAbs * b.natAbs = (a * b).natAbs := (Int.natAbs_mul a b).symm
  have hm1 : (a * b).natAbs ≤ 4611686018427387904 := by have := h.lo; have := h.hi; omega
  obtain ⟨p1, hp1⟩ : ∃ p, decide (a < 0) = p := ⟨_, rfl⟩
  obtain ⟨p2, hp2⟩ : ∃ p, decide (b < 0) = p := ⟨_, rfl⟩
  have hfour : (p1 = true ∧ p2 = false ∧ -((a * b).natAbs : Int) = a * b) ∨ (p1 = false ∧ p2 = true ∧ -((a * b).natAbs : Int) = a * b) ∨ (p1 = true ∧ p2 = true ∧ ((a * b).natAbs : Int) = a * b) ∨ (p1 = false ∧ p2 = false ∧ ((a * b).natAbs : Int) = a * b) := by
    cases p1 <;> cases p2 <;> simp only [decide_eq_true_eq, decide_eq_false_iff_not] at hp1 hp2
    · exact .inr (.inr (.inr ⟨rfl, rfl, by have := Int.mul_nonneg (show 0 ≤ a by omega) (show 0 ≤ b by omega); omega⟩))
    · exact .inr (.inl ⟨rfl, rfl, by have := Int.mul_nonneg (show 0 ≤ a by omega) (show 0 ≤ -b by omega); rw [Int.mul_neg] at this; omega⟩)
    · exact .inl ⟨rfl, rfl, by have := Int.mul_nonneg (show 0 ≤ -a by omega) (show 0 ≤ b by omega); rw [Int.neg_mul] at this; omega⟩
    · exact .inr (.inr (.inl ⟨rfl, rfl, by have := Int.mul_nonneg (show 0 ≤ -a by omega) (show 0 ≤ -b by omega); rw [Int.neg_mul_neg] at this; omega⟩))
  rw [hab] at HM
  obtain ⟨z, hz⟩ : ∃ z, a * b = z := ⟨_, rfl⟩
  rw [hz] at hfour hm1 HM ⊢
  generalize z.natAbs = m at *
  rw [show m / 18446744073709551616 = 0 by omega, show m % 18446744073709551616 = m by omega] at HM
  have k3 : decide ((m : Int) ≤ 9223372036854775807) = true := decide_eq_true (by omega)
  have k4 : IntKind.i64.wrap (m : Int) = m := IntWalk.i64_in _ (by omega)
  have k5 : IntKind.i64.wrap (-(m : Int)) = -m := IntWalk.i64_in _ (by omega)
  have k7 : IntKind.i64.wrap z = z := by rw [← hz]; exact h.wrap
  have k8 : decide (z ≤ 9223372036854775807) = true := decide_eq_true (by rw [← hz]; have := h.hi; omega)
  clear h1 h2 h HB0 HB1 hab hm1 hz
  rcases hfour with ⟨rfl, rfl, k6⟩ | ⟨rfl, rfl, k6⟩ | ⟨rfl, rfl, k6⟩ | ⟨rfl, rfl, k6⟩
  all_goals
    go_enter Tryz.func72, Tryz.ntmps72
    go_wp2_with fail
    refine wp_region_later (by kernel_rfl) (by kernel_rfl) ?_
    repeat go_big_quiet_step ((first | (go_at_call 104; exact Calls.later_same (HSZ.out _ _ (by first | exact .inl rfl | exact .inr rfl))) | (go_at_call 103; exact Calls.later_same ((HM.out _).mono (fun e w' h => ⟨h.1, h.2.symm⟩)))))
    refine wpQuiet_nil ?_
    rintro w4 ⟨⟨_, hb⟩, rfl⟩
    have HB4 := Lib.hid (HB.out.trans (hb.mono HB.out.size))
    have HX4 := Lib.hid (HX.out.later hb)
    have HY4 := Lib.hid (HY.out.later hb)
    have HZ4 := Lib.hid (HZ.out.later hb)
    clear hb x0 x1 xf xz y0 y1 yf yz z0 z1' zf zz
    obtain ⟨x0, x1, xf, xz⟩ := HX4.out.v2
    obtain ⟨y0, y1, yf, yz⟩ := HY4.out.v2
    obtain ⟨z0, z1', zf, zz⟩ := HZ4.out.v2
    go_wp2_with fail
    refine bodyPost_ret (v := .agg #[.int .i64 z, .slice none 0 0]) (by simp [results, Tryz.results72, go_sem, *]) rfl ?_
    refine Ret.mk rfl ?_
    repeat (first | exact HB4.out | exact Below.refl _ _ | refine Below.setCell ?_ (by first | (dsimp only; omega) | (simp; done) | (simp; omega)) _ | refine Below.alloc ?_ (by first | omega | (simp; done) | (simp; omega)) _ | refine Below.drew ?_)
end Go.Proofs.YtflchbejjofppaaGreatDoor.Nu
/- Walks: comparisons of small whole numbers; whole fractions. -/
namespace Go.Proofs.YtflchbejjofppaaGreatDoor.Nu
open Go Go.Proofs Go.RowKit Go.Proofs.YtflchbejjofppaaGreatDoor
def cmpZ (a b : Int) : Int := if a < b then -1 else if b < a then 1 else 0
theorem cmpZ_cases (a b : Int) : (a < b ∧ cmpZ a b = -1) ∨ (a = b ∧ cmpZ a b = 0) ∨ (b < a ∧ cmpZ a b = 1) := by
  unfold cmpZ
  rcases Int.lt_trichotomy a b with h | h | h
  · exact .inl ⟨h, by rw [if_pos h]⟩
  · exact .inr (.inl ⟨h, by rw [if_neg (by omega), if_neg (by omega)]⟩)
  · exact .inr (.inr ⟨h, by rw [if_neg (by omega), if_pos h]⟩)
set_option maxRecDepth 100000 in
set_option maxHeartbeats 1000000 in
theorem scmp83 (w : World) (a b : Int) : Calls Tryz.prog 83 #[.agg #[.int .i64 a, .slice none 0 0], .agg #[.int .i64 b, .slice none 0 0]] w (Ret (.int .i64 (cmpZ a b)) w) := by
  have hq := fun (w : World) (a : Option Addr) (n c : Nat) => Lib.run_eql_slice_nil w 79 157 a n c 0 0 Tryz.underlying79
  have HB_0 := Lib.hid ((Below.refl w.heap.size w).alloc (Nat.le_refl _) (.cells #[.int .i64 a, .slice none 0 0] 81))
  have HB := Lib.hid (HB_0.out.alloc HB_0.out.size (.cells #[.int .i64 b, .slice none 0 0] 81))
  have HX := Lib.hid ((Box.new w #[.int .i64 a, .slice none 0 0] 81).alloc (.cells #[.int .i64 b, .slice none 0 0] 81))
  have HY := Lib.hid (Box.newAt (w.alloc (.cells #[.int .i64 a, .slice none 0 0] 81)) #[.int .i64 b, .slice none 0 0] 81 (n := w.heap.size + 1) (by simp))
  obtain ⟨x0, x1, xf, xz⟩ := HX.out.v2
  obtain ⟨y0, y1, yf, yz⟩ := HY.out.v2
  clear HB_0
  have hway : (decide (a < b) = true ∧ cmpZ a b = -1) ∨ (decide (a < b) = false ∧ decide (b < a) = false ∧ cmpZ a b = 0) ∨ (decide (a < b) = false ∧ decide (b < a) = true ∧ cmpZ a b = 1) := by
    rcases cmpZ_cases a b with ⟨h, e⟩ | ⟨h, e⟩ | ⟨h, e⟩
    · exact .inl ⟨decide_eq_true h, e⟩
    · exact .inr (.inl ⟨decide_eq_false (by omega), decide_eq_false (by omega), e⟩)
    · exact .inr (.inr ⟨decide_eq_false (by omega), decide_eq_true h, e⟩)
  rcases hway with ⟨k1, e⟩ | ⟨k1, k2, e⟩ | ⟨k1, k2, e⟩
  all_goals
    rw [e]
    clear e
    go_enter Tryz.func83, Tryz.ntmps83
    go_wp2_with fail
    go_ret
    exact ⟨rfl, HB.out⟩
set_option maxRecDepth 100000 in
set_option maxHeartbeats 1000000 in
theorem swhole69 (w : World) (a : Int) : Calls Tryz.prog 69 #[.agg #[.int .i64 a, .slice none 0 0]] w (Ret (.agg #[.int .i64 a, .slice none 0 0, .int .i64 1, .slice none 0 0]) w) := by
  have HO := Lib.hid (fun (w1 : World) (n : Int) => of94 n w1)
  have HB_0 := Lib.hid ((Below.refl w.heap.size w).alloc (Nat.le_refl _) (.cells #[.int .i64 a, .slice none 0 0] 81))
  have HB := Lib.hid (HB_0.out.alloc HB_0.out.size (.cells #[.int .i64 0, .slice none 0 0, .int .i64 0, .slice none 0 0] 83))
  have HX := Lib.hid ((Box.new w #[.int .i64 a, .slice none 0 0] 81).alloc (.cells #[.int .i64 0, .slice none 0 0, .int .i64 0, .slice none 0 0] 83))
  have HZ := Lib.hid (Box.newAt (w.alloc (.cells #[.int .i64 a, .slice none 0 0] 81)) #[.int .i64 0, .slice none 0 0, .int .i64 0, .slice none 0 0] 83 (n := w.heap.size + 1) (by simp))
  obtain ⟨x0, x1, xf, xz⟩ := HX.out.v2
  obtain ⟨z0, z1, z2, z3, zf, zz⟩ := HZ.out.w4
  clear HB_0
  go_enter Tryz.func69, Tryz.ntmps69
  go_wp2_with fail
  refine wp_region_head_later 3 (by kernel_rfl) (by kernel_rfl) ?_
  simp only [List.take_succ_cons, List.take_zero, List.drop_succ_cons, List.drop_zero]
  repeat go_big_quiet_step ((go_at_call 94; exact Calls.later (HO.out _ _)))
  refine wpQuiet_nil ?_
  rintro w2 ⟨⟨_, hb2⟩, rfl⟩
  replace HB := Lib.hid (HB.out.trans (hb2.mono HB.out.size))
  replace HX := Lib.hid (HX.out.later hb2)
  replace HZ := Lib.hid (HZ.out.later hb2)
  clear hb2 x0 x1 xf xz z0 z1 z2 z3 zf zz
  obtain ⟨x0, x1, xf, xz⟩ := HX.out.v2
  obtain ⟨z0, z1, z2, z3, zf, zz⟩ := HZ.out.w4
  go_wp2_with fail
  refine bodyPost_ret (v := .agg #[.int .i64 a, .slice none 0 0, .int .i64 1, .slice none 0 0]) (by simp [results, Tryz.results69, go_sem, *]) rfl ?_
  refine Ret.mk rfl ?_
  repeat (first | exact HB.out | exact Below.refl _ _ | refine Below.setCell ?_ (by first | (dsimp only; omega) | (simp; done) | (simp; omega)) _ | refine Below.alloc ?_ (by first | omega | (simp; done) | (simp; omega)) _ | refine Below.drew ?_)
set_option maxRecDepth 100000 in
set_option maxHeartbeats 1000000 in
theorem sisWhole68 (w : World) (a : Int) : Calls Tryz.prog 68 #[.agg #[.int .i64 a, .slice none 0 0, .int .i64 1, .slice none 0 0]] w (Ret (.bool true) w) := by
  have hq := fun (w : World) (a : Option Addr) (n c : Nat) => Lib.run_eql_slice_nil w 79 157 a n c 0 0 Tryz.underlying79
  have HB := Lib.hid ((Below.refl w.heap.size w).alloc (Nat.le_refl _) (.cells #[.int .i64 a, .slice none 0 0, .int .i64 1, .slice none 0 0] 83))
  have HX := Lib.hid (Box.new w #[.int .i64 a, .slice none 0 0, .int .i64 1, .slice none 0 0] 83)
  obtain ⟨x0, x1, x2, x3, xf, xz⟩ := HX.out.w4
  go_enter Tryz.func68, Tryz.ntmps68
  go_wp2_with fail
  go_ret
  exact ⟨rfl, HB.out⟩
set_option maxRecDepth 100000 in
set_option maxHeartbeats 1000000 in
theorem sneg73 (w : World) (a : Int) (h : Sm a) : Calls Tryz.prog 73 #[.agg #[.int .i64 a, .slice none 0 0, .int .i64 1, .slice none 0 0]] w (Ret (.agg #[.int .i64 (-a), .slice none 0 0, .int .i64 1, .slice none 0 0]) w) := by
  have HO := Lib.hid (fun (w1 : World) => sneg101 w1 a h)
  obtain ⟨z, hz⟩ : ∃ z, -a = z := ⟨_, rfl⟩
  rw [hz] at HO ⊢
  clear hz h
  have HB_0 := Lib.hid ((Below.refl w.heap.size w).alloc (Nat.le_refl _) (.cells #[.int .i64 a, .slice none 0 0, .int .i64 1, .slice none 0 0] 83))
  have HB := Lib.hid (HB_0.out.alloc HB_0.out.size (.cells #[.int .i64 0, .slice none 0 0, .int .i64 0, .slice none 0 0] 83))
  have HX := Lib.hid ((Box.new w #[.int .i64 a, .slice none 0 0, .int .i64 1, .slice none 0 0] 83).alloc (.cells #[.int .i64 0, .slice none 0 0, .int .i64 0, .slice none 0 0] 83))
  have HZ := Lib.hid (Box.newAt (w.alloc (.cells #[.int .i64 a, .slice none 0 0, .int .i64 1, .slice none 0 0] 83)) #[.int .i64 0, .slice none 0 0, .int .i64 0, .slice none 0 0] 83 (n := w.heap.size + 1) (by simp))
  obtain ⟨x0, x1, x2, x3, xf, xz⟩ := HX.out.w4
  obtain ⟨z0, z1, z2, z3, zf, zz⟩ := HZ.out.w4
  clear HB_0
  go_enter Tryz.func73, Tryz.ntmps73
  go_wp2_with fail
  refine wp_region_head_later 6 (by kernel_rfl) (by kernel_rfl) ?_
  simp only [List.take_succ_cons, List.take_zero, List.drop_succ_cons, List.drop_zero]
  repeat go_big_quiet_step ((go_at_call 101; exact Calls.later (HO.out _)))
  refine wpQuiet_nil ?_
  rintro w2 ⟨⟨_, hb2⟩, rfl⟩
  replace HB := Lib.hid (HB.out.trans (hb2.mono HB.out.size))
  replace HX := Lib.hid (HX.out.later hb2)
  replace HZ := Lib.hid (HZ.out.later hb2)
  clear hb2 x0 x1 x2 x3 xf xz z0 z1 z2 z3 zf zz
  obtain ⟨x0, x1, x2, x3, xf, xz⟩ := HX.out.w4
  obtain ⟨z0, z1, z2, z3, zf, zz⟩ := HZ.out.w4
  go_wp2_with fail
  refine bodyPost_ret (v := .agg #[.int .i64 z, .slice none 0 0, .int .i64 1, .slice none 0 0]) (by simp [results, Tryz.results73, go_sem, *]) rfl ?_
  refine Ret.mk rfl ?_
  repeat (first | exact HB.out | exact Below.refl _ _ | refine Below.setCell ?_ (by first | (dsimp only; omega) | (simp; done) | (simp; omega)) _ | refine Below.alloc ?_ (by first | omega | (simp; done) | (simp; omega)) _ | refine Below.drew ?_)
set_option maxRecDepth 100000 in
set_option maxHeartbeats 1000000 in
theorem sadd43 (w : World) (a b : Int) (h : Sm (a + b)) : Calls Tryz.prog 43 #[.agg #[.int .i64 a, .slice none 0 0, .int .i64 1, .slice none 0 0], .agg #[.int .i64 b, .slice none 0 0, .int .i64 1, .slice none 0 0]] w (Ret (.agg #[.int .i64 (a + b), .slice none 0 0, .int .i64 1, .slice none 0 0]) w) := by
  have HW := Lib.hid (fun (w1 : World) (z : Int) => sisWhole68 w1 z)
  have HA := Lib.hid (fun (w1 : World) => sadd70 w1 a b h)
  have HV := Lib.hid (fun (w1 : World) (z : Int) => swhole69 w1 z)
  obtain ⟨z, hz⟩ : ∃ z, a + b = z := ⟨_, rfl⟩
  rw [hz] at HA ⊢
  clear hz h
  have HB_0 := Lib.hid ((Below.refl w.heap.size w).alloc (Nat.le_refl _) (.cells #[.int .i64 a, .slice none 0 0, .int .i64 1, .slice none 0 0] 83))
  have HB_1 := Lib.hid (HB_0.out.alloc HB_0.out.size (.cells #[.int .i64 b, .slice none 0 0, .int .i64 1, .slice none 0 0] 83))
  have HB := Lib.hid (HB_1.out.alloc HB_1.out.size (.cells #[.int .i64 0, .slice none 0 0, .int .i64 0, .slice none 0 0] 83))
  have HX := Lib.hid (((Box.new w #[.int .i64 a, .slice none 0 0, .int .i64 1, .slice none 0 0] 83).alloc (.cells #[.int .i64 b, .slice none 0 0, .int .i64 1, .slice none 0 0] 83)).alloc (.cells #[.int .i64 0, .slice none 0 0, .int .i64 0, .slice none 0 0] 83))
  have HY := Lib.hid ((Box.newAt (w.alloc (.cells #[.int .i64 a, .slice none 0 0, .int .i64 1, .slice none 0 0] 83)) #[.int .i64 b, .slice none 0 0, .int .i64 1, .slice none 0 0] 83 (n := w.heap.size + 1) (by simp)).alloc (.cells #[.int .i64 0, .slice none 0 0, .int .i64 0, .slice none 0 0] 83))
  have HZ := Lib.hid (Box.newAt ((w.alloc (.cells #[.int .i64 a, .slice none 0 0, .int .i64 1, .slice none 0 0] 83)).alloc (.cells #[.int .i64 b, .slice none 0 0, .int .i64 1, .slice none 0 0] 83)) #[.int .i64 0, .slice none 0 0, .int .i64 0, .slice none 0 0] 83 (n := w.heap.size + 1 + 1) (by simp))
  obtain ⟨x0, x1, x2, x3, xf, xz⟩ := HX.out.w4
  obtain ⟨y0, y1, y2, y3, yf, yz⟩ := HY.out.w4
  obtain ⟨z0, z1, z2, z3, zf, zz⟩ := HZ.out.w4
  clear HB_0 HB_1
  go_enter Tryz.func43, Tryz.ntmps43
  go_wp2_with fail
  refine (HW.out _ _).mono ?_
  rintro e4 w4 ⟨rfl, hb⟩
  replace HB := Lib.hid (HB.out.trans (hb.mono HB.out.size))
  replace HX := Lib.hid (HX.out.later hb)
  replace HY := Lib.hid (HY.out.later hb)
  replace HZ := Lib.hid (HZ.out.later hb)
  clear hb x0 x1 x2 x3 xf xz y0 y1 y2 y3 yf yz z0 z1 z2 z3 zf zz
  obtain ⟨x0, x1, x2, x3, xf, xz⟩ := HX.out.w4
  obtain ⟨y0, y1, y2, y3, yf, yz⟩ := HY.out.w4
  obtain ⟨z0, z1, z2, z3, zf, zz⟩ := HZ.out.w4
  go_wp2_with fail
  refine (HW.out _ _).mono ?_
  rintro e5 w5 ⟨rfl, hb⟩
  replace HB := Lib.hid (HB.out.trans (hb.mono HB.out.size))
  replace HX := Lib.hid (HX.out.later hb)
  replace HY := Lib.hid (HY.out.later hb)
  replace HZ := Lib.hid (HZ.out.later hb)
  clear hb x0 x1 x2 x3 xf xz y0 y1 y2 y3 yf yz z0 z1 z2 z3 zf zz
  obtain ⟨x0, x1, x2, x3, xf, xz⟩ := HX.out.w4
  obtain ⟨y0, y1, y2, y3, yf, yz⟩ := HY.out.w4
  obtain ⟨z0, z1, z2, z3, zf, zz⟩ := HZ.out.w4
  go_wp2_with fail
  refine (HA.out _).mono ?_
  rintro e6 w6 ⟨rfl, hb⟩
  replace HB := Lib.hid (HB.out.trans (hb.mono HB.out.size))
  replace HX := Lib.hid (HX.out.later hb)
  replace HY := Lib.hid (HY.out.later hb)
  replace HZ := Lib.hid (HZ.out.later hb)
  clear hb x0 x1 x2 x3 xf xz y0 y1 y2 y3 yf yz z0 z1 z2 z3 zf zz
  obtain ⟨x0, x1, x2, x3, xf, xz⟩ := HX.out.w4
  obtain ⟨y0, y1, y2, y3, yf, yz⟩ := HY.out.w4
  obtain ⟨z0, z1, z2, z3, zf, zz⟩ := HZ.out.w4
  go_wp2_with fail
  refine (HV.out _ _).mono ?_
  rintro e7 w7 ⟨rfl, hb⟩
  replace HB := Lib.hid (HB.out.trans (hb.mono HB.out.size))
  replace HX := Lib.hid (HX.out.later hb)
  replace HY := Lib.hid (HY.out.later hb)
  replace HZ := Lib.hid (HZ.out.later hb)
  clear hb x0 x1 x2 x3 xf xz y0 y1 y2 y3 yf yz z0 z1 z2 z3 zf zz
  obtain ⟨x0, x1, x2, x3, xf, xz⟩ := HX.out.w4
  obtain ⟨y0, y1, y2, y3, yf, yz⟩ := HY.out.w4
  obtain ⟨z0, z1, z2, z3, zf, zz⟩ := HZ.out.w4
  go_wp2_with fail
  refine bodyPost_ret (v := .agg #[.int .i64 z, .slice none 0 0, .int .i64 1, .slice none 0 0]) (by simp [results, Tryz.results43, go_sem, *]) rfl ?_
  refine Ret.mk rfl ?_
  repeat (first | exact HB.out | exact Below.refl _ _ | refine Below.setCell ?_ (by first | (dsimp only; omega) | (simp; done) | (simp; omega)) _ | refine Below.alloc ?_ (by first | omega | (simp; done) | (simp; omega)) _ | refine Below.drew ?_)
set_option maxRecDepth 100000 in
set_option maxHeartbeats 1000000 in
theorem ssub44 (w : World) (a b : Int) (hb : Sm b) (h : Sm (a - b)) : Calls Tryz.prog 44 #[.agg #[.int .i64 a, .slice none 0 0, .int .i64 1, .slice none 0 0], .agg #[.int .i64 b, .slice none 0 0, .int .i64 1, .slice none 0 0]] w (Ret (.agg #[.int .i64 (a - b), .slice none 0 0, .int .i64 1, .slice none 0 0]) w) := by
  have HN := Lib.hid (fun (w1 : World) => sneg73 w1 b hb)
  have HA := Lib.hid (fun (w1 : World) => sadd43 w1 a (-b) (by rw [show a + -b = a - b by omega]; exact h))
  rw [show a + -b = a - b by omega] at HA
  generalize a - b = z at *
  clear hb h
  have HB_0 := Lib.hid ((Below.refl w.heap.size w).alloc (Nat.le_refl _) (.cells #[.int .i64 a, .slice none 0 0, .int .i64 1, .slice none 0 0] 83))
  have HB_1 := Lib.hid (HB_0.out.alloc HB_0.out.size (.cells #[.int .i64 b, .slice none 0 0, .int .i64 1, .slice none 0 0] 83))
  have HB := Lib.hid (HB_1.out.alloc HB_1.out.size (.cells #[.int .i64 0, .slice none 0 0, .int .i64 0, .slice none 0 0] 83))
  have HX := Lib.hid (((Box.new w #[.int .i64 a, .slice none 0 0, .int .i64 1, .slice none 0 0] 83).alloc (.cells #[.int .i64 b, .slice none 0 0, .int .i64 1, .slice none 0 0] 83)).alloc (.cells #[.int .i64 0, .slice none 0 0, .int .i64 0, .slice none 0 0] 83))
  have HY := Lib.hid ((Box.newAt (w.alloc (.cells #[.int .i64 a, .slice none 0 0, .int .i64 1, .slice none 0 0] 83)) #[.int .i64 b, .slice none 0 0, .int .i64 1, .slice none 0 0] 83 (n := w.heap.size + 1) (by simp)).alloc (.cells #[.int .i64 0, .slice none 0 0, .int .i64 0, .slice none 0 0] 83))
  have HZ := Lib.hid (Box.newAt ((w.alloc (.cells #[.int .i64 a, .slice none 0 0, .int .i64 1, .slice none 0 0] 83)).alloc (.cells #[.int .i64 b, .slice none 0 0, .int .i64 1, .slice none 0 0] 83)) #[.int .i64 0, .slice none 0 0, .int .i64 0, .slice none 0 0] 83 (n := w.heap.size + 1 + 1) (by simp))
  obtain ⟨x0, x1, x2, x3, xf, xz⟩ := HX.out.w4
  obtain ⟨y0, y1, y2, y3, yf, yz⟩ := HY.out.w4
  obtain ⟨z0, z1, z2, z3, zf, zz⟩ := HZ.out.w4
  clear HB_0 HB_1
  go_enter Tryz.func44, Tryz.ntmps44
  go_wp2_with fail
  refine wp_region_head_later 4 (by kernel_rfl) (by kernel_rfl) ?_
  simp only [List.take_succ_cons, List.take_zero, List.drop_succ_cons, List.drop_zero]
  repeat go_big_quiet_step ((first | (go_at_call 73; exact Calls.later (HN.out _)) | (go_at_call 43; exact Calls.later (HA.out _))))
  refine wpQuiet_nil ?_
  rintro w2 ⟨⟨_, hb2⟩, rfl⟩
  replace HB := Lib.hid (HB.out.trans (hb2.mono HB.out.size))
  replace HX := Lib.hid (HX.out.later hb2)
  replace HY := Lib.hid (HY.out.later hb2)
  replace HZ := Lib.hid (HZ.out.later hb2)
  clear hb2 x0 x1 x2 x3 xf xz y0 y1 y2 y3 yf yz z0 z1 z2 z3 zf zz
  obtain ⟨x0, x1, x2, x3, xf, xz⟩ := HX.out.w4
  obtain ⟨y0, y1, y2, y3, yf, yz⟩ := HY.out.w4
  obtain ⟨z0, z1, z2, z3, zf, zz⟩ := HZ.out.w4
  go_wp2_with fail
  refine bodyPost_ret (v := .agg #[.int .i64 z, .slice none 0 0, .int .i64 1, .slice none 0 0]) (by simp [results, Tryz.results44, go_sem, *]) rfl ?_
  refine Ret.mk rfl ?_
  repeat (first | exact HB.out | exact Below.refl _ _ | refine Below.setCell ?_ (by first | (dsimp only; omega) | (simp; done) | (simp; omega)) _ | refine Below.alloc ?_ (by first | omega | (simp; done) | (simp; omega)) _ | refine Below.drew ?_)
set_option maxRecDepth 100000 in
set_option maxHeartbeats 1000000 in
theorem scmp54 (w : World) (a b : Int) (h1 : Sm a) (h2 : Sm b) : Calls Tryz.prog 54 #[.agg #[.int .i64 a, .slice none 0 0, .int .i64 1, .slice none 0 0], .agg #[.int .i64 b, .slice none 0 0, .int .i64 1, .slice none 0 0]] w (Ret (.int .i64 (cmpZ a b)) w) := by
  have HM := Lib.hid (fun (w1 : World) (z : Int) (h : z = a ∨ z = b) => (by
    have h := smul72 w1 z 1 (by rcases h with rfl | rfl <;> assumption) ⟨by omega, by omega⟩ (by rw [Int.mul_one]; rcases h with rfl | rfl <;> assumption)
    rwa [Int.mul_one] at h : Calls Tryz.prog 72 #[.agg #[.int .i64 z, .slice none 0 0], .agg #[.int .i64 1, .slice none 0 0]] w1 (Ret (.agg #[.int .i64 z, .slice none 0 0]) w1)))
  have HC := Lib.hid (fun (w1 : World) => scmp83 w1 a b)
  have HB_0 := Lib.hid ((Below.refl w.heap.size w).alloc (Nat.le_refl _) (.cells #[.int .i64 a, .slice none 0 0, .int .i64 1, .slice none 0 0] 83))
  have HB := Lib.hid (HB_0.out.alloc HB_0.out.size (.cells #[.int .i64 b, .slice none 0 0, .int .i64 1, .slice none 0 0] 83))
  have HX := Lib.hid ((Box.new w #[.int .i64 a, .slice none 0 0, .int .i64 1, .slice none 0 0] 83).alloc (.cells #[.int .i64 b, .slice none 0 0, .int .i64 1, .slice none 0 0] 83))
  have HY := Lib.hid (Box.newAt (w.alloc (.cells #[.int .i64 a, .slice none 0 0, .int .i64 1, .slice none 0 0] 83)) #[.int .i64 b, .slice none 0 0, .int .i64 1, .slice none 0 0] 83 (n := w.heap.size + 1) (by simp))
  obtain ⟨x0, x1, x2, x3, xf, xz⟩ := HX.out.w4
  obtain ⟨y0, y1, y2, y3, yf, yz⟩ := HY.out.w4
  clear HB_0
  clear h1 h2
  go_enter Tryz.func54, Tryz.ntmps54
  go_wp2_with fail
  refine wp_region_later (by kernel_rfl) (by kernel_rfl) ?_
  repeat go_big_quiet_step ((first | (go_at_call 72; exact Calls.later (HM.out _ _ (by first | exact .inl rfl | exact .inr rfl))) | (go_at_call 83; exact Calls.later (HC.out _))))
  refine wpQuiet_nil ?_
  rintro w2 ⟨⟨_, hb2⟩, rfl⟩
  have HB2 := Lib.hid (HB.out.trans (hb2.mono HB.out.size))
  clear hb2
  go_wp2_with fail
  go_ret
  exact ⟨rfl, HB2.out⟩
end Go.Proofs.YtflchbejjofppaaGreatDoor.Nu
