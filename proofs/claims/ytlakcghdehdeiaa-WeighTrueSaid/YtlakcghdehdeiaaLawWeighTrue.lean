/- The law WeighTrue returns true for every input, and leaves its arguments as they were. No conditions. -/
import Derived.Test.YtlakcghdehdeiaaLib13
import Derived.Test.YtlakcghdehdeiaaLib11
import Derived.IntWalk
import Derived.Test.YtlakcghdehdeiaaLib14
set_option linter.unusedVariables false
set_option linter.unusedSimpArgs false

/- The law of drifts, walked. -/
namespace Go.Proofs.Ytlakcghdehdeiaa
open Go Go.Proofs Go.RowKit

/-- Too low or too high. -/
def offR (r : Rg) : Bool := decide (r.lo < -999999999) || decide (999999999 < r.hi)
theorem offR_ck {r : Rg} (h : r.lo ≤ r.hi) : offR r = decide (ckRange r ≠ 0) := by
  have := @ckRange_ok r
  rw [Bool.eq_iff_iff]
  simp only [offR, Bool.or_eq_true, decide_eq_true_eq]
  constructor
  · intro h1 h2
    have := this.1 h2
    omega
  · intro h1
    apply Classical.byContradiction
    intro h2
    exact h1 (this.2 (by omega))
theorem drift_le {s : List Int} {b a : Rg} (hb : b.lo ≤ b.hi) (ha : a.lo ≤ a.hi) (i : Nat) (hi : i < s.length) : (driftAt s b a i).lo ≤ (driftAt s b a i).hi := by
  simp only [driftAt]
  have hn : (0 : Int) < s.length + 1 := by omega
  have h1 : b.lo * ((s.length : Int) + 1 - (i + 1)) ≤ b.hi * ((s.length : Int) + 1 - (i + 1)) := Int.mul_le_mul_of_nonneg_right hb (by omega)
  have h2 : a.lo * ((i : Int) + 1) ≤ a.hi * (i + 1) := Int.mul_le_mul_of_nonneg_right ha (by omega)
  generalize b.lo * ((s.length : Int) + 1 - (i + 1)) = p1 at *
  generalize b.hi * ((s.length : Int) + 1 - (i + 1)) = p2 at *
  generalize a.lo * ((i : Int) + 1) = p3 at *
  generalize a.hi * ((i : Int) + 1) = p4 at *
  generalize s.getD i 0 * ((s.length : Int) + 1) = m at *
  generalize (s.length : Int) + 1 = n at *
  have e1 := Int.ediv_mul_le (m - (p2 + p4)) (Int.ne_of_gt hn)
  have e2 := Int.ediv_mul_le (p1 + p3 - m) (Int.ne_of_gt hn)
  generalize (m - (p2 + p4)) / n = x at *
  generalize (p1 + p3 - m) / n = y at *
  apply Classical.byContradiction
  intro hc
  have h3 : 0 < x + y := by omega
  have h4 : 0 < (x + y) * n := Int.mul_pos h3 hn
  rw [Int.add_mul] at h4
  omega
theorem drift_any {s : List Int} {b a : Rg} (hb : b.lo ≤ b.hi) (ha : a.lo ≤ a.hi) : (driftL s b a).any offR = (driftL s b a).any (fun r => ckRange r ≠ 0) := by
  have key : ∀ r ∈ driftL s b a, offR r = decide (ckRange r ≠ 0) := by
    intro r hr
    obtain ⟨i, hi, rfl⟩ := List.mem_map.1 hr
    exact offR_ck (drift_le hb ha i (List.mem_range.1 hi))
  rw [Bool.eq_iff_iff, List.any_eq_true, List.any_eq_true]
  constructor
  · rintro ⟨r, h1, h2⟩
    exact ⟨r, h1, by rw [key r h1] at h2; exact h2⟩
  · rintro ⟨r, h1, h2⟩
    exact ⟨r, h1, by rw [key r h1]; exact h2⟩
/-- What the law asks. -/
theorem drift_law (s : List Int) (b a : Rg) : let bad := firstNZ [ckShown s, ckRange b, ckRange a]
    (bad ≠ 0 → rangesP (driftR s b a) (driftE s b a) bad []) ∧
    (bad = 0 → s.length ≤ 256 ∧ (∀ n ∈ s, 0 ≤ n ∧ n ≤ 999999999) ∧ (-999999999 ≤ b.lo ∧ b.lo ≤ b.hi ∧ b.hi ≤ 999999999) ∧ (-999999999 ≤ a.lo ∧ a.lo ≤ a.hi ∧ a.hi ≤ 999999999) ∧
      rangesP (driftR s b a) (driftE s b a) (if (driftL s b a).any offR then 4 else 0) (driftL s b a)) := by
  intro bad
  have hb : bad = firstNZ [ckShown s, ckRange b, ckRange a] := rfl
  by_cases h0 : ckShown s = 0
  · have e1 : bad = firstNZ [ckRange b, ckRange a] := by rw [hb]; simp [firstNZ, h0]
    have hne : ¬ s.length = 0 := by intro h; simp [ckShown, h] at h0
    have h256 : ¬ 256 < s.length := by intro h; simp [ckShown, hne, h] at h0
    have hany : s.any badN = false := by
      simp only [ckShown, if_neg hne, if_neg h256, ckShownL_any] at h0
      cases h : s.any badN
      · rfl
      · rw [h] at h0; simp at h0
    have hs : ∀ n ∈ s, 0 ≤ n ∧ n ≤ 999999999 := by
      intro n hn
      have := List.any_eq_false.1 hany n hn
      simp [badN] at this
      exact ⟨this.1, this.2⟩
    constructor
    · intro hne2
      have e : driftE s b a = bad := by simp only [driftE, if_neg hne, if_neg h256, hany, ← e1, if_pos hne2, Bool.false_eq_true, if_false]
      unfold rangesP
      rw [if_pos hne2, driftR, e, if_neg hne2]
      exact ⟨rfl, rfl⟩
    · intro hz
      rw [e1] at hz
      obtain ⟨z1, z2⟩ := firstNZ_2.1 hz
      have r1 := ckRange_0 z1
      have r2 := ckRange_0 z2
      refine ⟨by omega, hs, r1, r2, ?_⟩
      have e : driftE s b a = if (driftL s b a).any (fun r => ckRange r ≠ 0) then 4 else 0 := by
        simp only [driftE, if_neg hne, if_neg h256, hany, hz, Bool.false_eq_true, if_false, ne_eq, not_true_eq_false]
      rw [drift_any r1.2.1 r2.2.1, ← e]
      unfold rangesP driftR
      by_cases h4 : driftE s b a = 0
      · rw [h4]; simp
      · simp [h4]
  · have e1 : bad = ckShown s := by rw [hb]; simp [firstNZ, h0]
    refine ⟨fun _ => ?_, fun h => absurd (e1.symm.trans h) h0⟩
    rw [e1]
    have e : driftE s b a = ckShown s := by
      unfold driftE ckShown at *
      by_cases g1 : s.length = 0
      · simp [g1]
      by_cases g2 : 256 < s.length
      · simp [g1, g2]
      rw [if_neg g1, if_neg g2] at h0 ⊢
      rw [if_neg g1, if_neg g2]
      rw [ckShownL_any] at h0 ⊢
      by_cases g3 : s.any badN = true
      · simp [g3]
      · simp [g3] at h0
    unfold rangesP
    rw [if_pos h0, driftR, e, if_neg h0]
    exact ⟨rfl, rfl⟩
end Go.Proofs.Ytlakcghdehdeiaa

/- The law of true masses, plainly. -/
namespace Go.Proofs.Ytlakcghdehdeiaa
open Go Go.Proofs Go.RowKit

/-- A number of 16 bits. -/
def U16 (n : Int) : Prop := 0 ≤ n ∧ n ≤ 65535
theorem mod_bd {a b : Int} (ha : U16 a) (hb : U16 b) : 0 ≤ a % (b + 1) ∧ a % (b + 1) ≤ b := by
  have hb' := hb.1
  exact ⟨Int.emod_nonneg _ (by omega), by have := Int.emod_lt_of_pos a (show (0 : Int) < b + 1 by omega); omega⟩
theorem true_net {g0 g1 g2 t0 t1 t2 : Int} (h0 : U16 g0) (h1 : U16 g1) (h2 : U16 g2) (k0 : U16 t0) (k1 : U16 t1) (k2 : U16 t2) :
    netE ⟨g0, g0 + g1⟩ ⟨t0, t0 + t1⟩ = 0 ∧ (t0 + t2 % (t1 + 1) ≤ g0 + g2 % (g1 + 1) → netB ⟨g0, g0 + g1⟩ ⟨t0, t0 + t1⟩ = 0 ∧ (netF ⟨g0, g0 + g1⟩ ⟨t0, t0 + t1⟩).lo ≤ g0 + g2 % (g1 + 1) - (t0 + t2 % (t1 + 1)) ∧
      g0 + g2 % (g1 + 1) - (t0 + t2 % (t1 + 1)) ≤ (netF ⟨g0, g0 + g1⟩ ⟨t0, t0 + t1⟩).hi) := by
  have m1 := mod_bd h2 h1
  have m2 := mod_bd k2 k1
  unfold U16 at *
  have e1 : ckMass ⟨g0, g0 + g1⟩ = 0 := ckMass_ok.2 (by dsimp only; omega)
  have e2 : ckMass ⟨t0, t0 + t1⟩ = 0 := ckMass_ok.2 (by dsimp only; omega)
  have e : netE ⟨g0, g0 + g1⟩ ⟨t0, t0 + t1⟩ = 0 := firstNZ_2.2 ⟨e1, e2⟩
  refine ⟨e, fun h => ?_⟩
  have hn : ¬ (g0 + g1 < t0) := by omega
  have eB : netB ⟨g0, g0 + g1⟩ ⟨t0, t0 + t1⟩ = 0 := by unfold netB; rw [if_neg (by simp [e]), if_neg hn]
  have eF : netF ⟨g0, g0 + g1⟩ ⟨t0, t0 + t1⟩ = netR ⟨g0, g0 + g1⟩ ⟨t0, t0 + t1⟩ := by unfold netF; rw [if_neg (by simp only [e]; omega)]
  rw [eB, eF]
  clear eB eF e e1 e2
  generalize g2 % (g1 + 1) = a at *
  generalize t2 % (t1 + 1) = b at *
  refine ⟨rfl, ?_, ?_⟩
  · show max 0 (g0 - (t0 + t1)) ≤ _
    rw [Int.max_def]
    split <;> omega
  · show _ ≤ g0 + g1 - t0
    omega
theorem true_drift {g0 g1 g2 t0 t1 t2 : Int} {s : List Int} (h0 : U16 g0) (h1 : U16 g1) (h2 : U16 g2) (k0 : U16 t0) (k1 : U16 t1) (k2 : U16 t2) (hs : ∀ n ∈ s, U16 n) (hl : 0 < s.length) (hl6 : s.length ≤ 6) (i : Nat) (hi : i < s.length) :
    let d := driftAt s ⟨g0, g0 + g1⟩ ⟨t0, t0 + t1⟩ i
    (d.lo * ((s.length : Int) + 1) ≤ s[i] * ((s.length : Int) + 1) - ((g0 + g2 % (g1 + 1)) * ((s.length : Int) - i) + (t0 + t2 % (t1 + 1)) * ((i : Int) + 1)) ∧
      s[i] * ((s.length : Int) + 1) - ((g0 + g2 % (g1 + 1)) * ((s.length : Int) - i) + (t0 + t2 % (t1 + 1)) * ((i : Int) + 1)) ≤ d.hi * ((s.length : Int) + 1)) ∧
    (-99999999 ≤ d.lo ∧ d.lo ≤ 99999999 ∧ -99999999 ≤ d.hi ∧ d.hi ≤ 99999999) := by
  intro d
  have m1 := mod_bd h2 h1
  have m2 := mod_bd k2 k1
  have hsi := hs s[i] (List.getElem_mem hi)
  unfold U16 at *
  have hd : d = driftAt s ⟨g0, g0 + g1⟩ ⟨t0, t0 + t1⟩ i := rfl
  unfold driftAt at hd
  have e : s.getD i 0 = s[i] := by rw [List.getD_eq_getElem?_getD, List.getElem?_eq_getElem hi]; rfl
  rw [e] at hd
  dsimp only at hd
  generalize s[i] = m at *
  generalize s.length = L at *
  rw [show (L : Int) + 1 - ((i : Int) + 1) = L - i by omega] at hd
  generalize g2 % (g1 + 1) = a at *
  generalize t2 % (t1 + 1) = b at *
  have x1 : (g0 + a) * ((L : Int) - i) ≤ (g0 + g1) * (L - i) := Int.mul_le_mul_of_nonneg_right (by omega) (by omega)
  have x2 : g0 * ((L : Int) - i) ≤ (g0 + a) * (L - i) := Int.mul_le_mul_of_nonneg_right (by omega) (by omega)
  have x3 : (t0 + b) * ((i : Int) + 1) ≤ (t0 + t1) * (i + 1) := Int.mul_le_mul_of_nonneg_right (by omega) (by omega)
  have x4 : t0 * ((i : Int) + 1) ≤ (t0 + b) * (i + 1) := Int.mul_le_mul_of_nonneg_right (by omega) (by omega)
  have y1 : 0 ≤ g0 * ((L : Int) - i) := Int.mul_nonneg (by omega) (by omega)
  have y2 : (g0 + g1) * ((L : Int) - i) ≤ 131070 * 6 := Int.mul_le_mul (by omega) (by omega) (by omega) (by omega)
  have y3 : 0 ≤ t0 * ((i : Int) + 1) := Int.mul_nonneg (by omega) (by omega)
  have y4 : (t0 + t1) * ((i : Int) + 1) ≤ 131070 * 6 := Int.mul_le_mul (by omega) (by omega) (by omega) (by omega)
  have y5 : 0 ≤ m * ((L : Int) + 1) := Int.mul_nonneg (by omega) (by omega)
  have y6 : m * ((L : Int) + 1) ≤ 65535 * 7 := Int.mul_le_mul (by omega) (by omega) (by omega) (by omega)
  generalize (g0 + a) * ((L : Int) - i) = p1 at *
  generalize (g0 + g1) * ((L : Int) - i) = p2 at *
  generalize g0 * ((L : Int) - i) = p3 at *
  generalize (t0 + b) * ((i : Int) + 1) = q1 at *
  generalize (t0 + t1) * ((i : Int) + 1) = q2 at *
  generalize t0 * ((i : Int) + 1) = q3 at *
  generalize m * ((L : Int) + 1) = r at *
  have hL : (1 : Int) ≤ L + 1 := by omega
  generalize (L : Int) + 1 = n at *
  have z1 := Int.ediv_mul_le (r - (p2 + q2)) (Int.ne_of_gt (show (0 : Int) < n by omega))
  have z2 := Int.ediv_mul_le (p3 + q3 - r) (Int.ne_of_gt (show (0 : Int) < n by omega))
  have z3 := ediv_bd (r - (p2 + q2)) n hL 9000000 (by omega)
  have z4 := ediv_bd (p3 + q3 - r) n hL 9000000 (by omega)
  rw [hd]
  dsimp only
  generalize (r - (p2 + q2)) / n = D0 at *
  generalize (p3 + q3 - r) / n = D1 at *
  rw [Int.neg_mul]
  omega
theorem true_E {g0 g1 g2 t0 t1 t2 : Int} {s : List Int} (h0 : U16 g0) (h1 : U16 g1) (h2 : U16 g2) (k0 : U16 t0) (k1 : U16 t1) (k2 : U16 t2) (hs : ∀ n ∈ s, U16 n) (hl : 0 < s.length) (hl6 : s.length ≤ 6) :
    driftE s ⟨g0, g0 + g1⟩ ⟨t0, t0 + t1⟩ = 0 ∧ driftR s ⟨g0, g0 + g1⟩ ⟨t0, t0 + t1⟩ = driftL s ⟨g0, g0 + g1⟩ ⟨t0, t0 + t1⟩ := by
  have e : driftE s ⟨g0, g0 + g1⟩ ⟨t0, t0 + t1⟩ = 0 := by
    have c1 : ckRange ⟨g0, g0 + g1⟩ = 0 := ckRange_ok.2 (by unfold U16 at *; dsimp only; omega)
    have c2 : ckRange ⟨t0, t0 + t1⟩ = 0 := ckRange_ok.2 (by unfold U16 at *; dsimp only; omega)
    have c3 : s.any badN = false := List.any_eq_false.2 fun n hn => by
      have := hs n hn
      unfold U16 at this
      simp [badN]
      omega
    have c4 : (driftL s ⟨g0, g0 + g1⟩ ⟨t0, t0 + t1⟩).any (fun r => ckRange r ≠ 0) = false := List.any_eq_false.2 fun r hr => by
      obtain ⟨i, hi, rfl⟩ := List.mem_map.1 hr
      have hi' := List.mem_range.1 hi
      have := (true_drift h0 h1 h2 k0 k1 k2 hs hl hl6 i hi').2
      have hle := drift_le (s := s) (b := ⟨g0, g0 + g1⟩) (a := ⟨t0, t0 + t1⟩) (by unfold U16 at *; dsimp only; omega) (by unfold U16 at *; dsimp only; omega) i hi'
      simp only [ne_eq, decide_eq_true_eq, Decidable.not_not]
      exact ckRange_ok.2 (by omega)
    unfold driftE
    rw [if_neg (by omega), if_neg (by omega), c3, if_neg (by simp), if_neg (by simp [firstNZ, c1, c2]), c4, if_neg (by simp)]
  exact ⟨e, by unfold driftR; rw [if_pos e]⟩
end Go.Proofs.Ytlakcghdehdeiaa

/- The law of true masses, walked. -/
namespace Go.Proofs.Ytlakcghdehdeiaa
open Go Go.Proofs Go.RowKit

/-- One number of 16 bits an element. -/
def encU (n : Int) : List Value := [.int .u16 n]

set_option maxRecDepth 100000 in
set_option maxHeartbeats 1000000 in
theorem true7_aside (g0 g1 g2 t0 t1 t2 : Int) (a : Option Addr) (n c : Nat) (w : World) (hn : n ≤ 9223372036854775807) (h : n = 0 ∨ 6 < n) :
    Calls Try.prog 7 #[.agg #[.int .u16 g0, .int .u16 g1, .int .u16 g2], .agg #[.int .u16 t0, .int .u16 t1, .int .u16 t2], .slice a n c] w (Ret (.bool true) w) := by
  rcases h with h | h
  · subst h
    go_enter Try.func7, Try.ntmps7
    go_wp2_with fail
    refine (awake16 _).mono ?_
    rintro e w1 ⟨rfl, hb1⟩
    have HB1 := Lib.hid ((((Below.refl w.heap.size w).alloc (Nat.le_refl _) (.cells #[.int .u16 g0, .int .u16 g1, .int .u16 g2] 55)).alloc (by simp) (.cells #[.int .u16 t0, .int .u16 t1, .int .u16 t2] 55)).trans (hb1.mono (by simp; omega)))
    clear hb1
    go_wp2_with fail
    refine (awake16 _).mono ?_
    rintro e w3 ⟨rfl, hb3⟩
    have HB3 := Lib.hid (HB1.out.trans (hb3.mono HB1.out.size))
    clear hb3
    go_wp2_with fail
    go_ret
    exact ⟨rfl, HB3.out⟩
  · have hne : ((n : Int) == 0) = false := by simp; omega
    go_enter Try.func7, Try.ntmps7
    go_wp2_with fail
    refine (awake16 _).mono ?_
    rintro e w1 ⟨rfl, hb1⟩
    have HB1 := Lib.hid ((((Below.refl w.heap.size w).alloc (Nat.le_refl _) (.cells #[.int .u16 g0, .int .u16 g1, .int .u16 g2] 55)).alloc (by simp) (.cells #[.int .u16 t0, .int .u16 t1, .int .u16 t2] 55)).trans (hb1.mono (by simp; omega)))
    clear hb1
    go_wp2_with fail
    refine (awake16 _).mono ?_
    rintro e w3 ⟨rfl, hb3⟩
    have HB3 := Lib.hid (HB1.out.trans (hb3.mono HB1.out.size))
    clear hb3
    go_wp2_with fail
    go_ret
    exact ⟨rfl, HB3.out⟩

set_option maxRecDepth 100000 in
set_option maxHeartbeats 1000000 in
theorem true7 (g0 g1 g2 t0 t1 t2 : Int) (v : Value) (s : List Int) (w : World) (h0 : U16 g0) (h1 : U16 g1) (h2 : U16 g2) (k0 : U16 t0) (k1 : U16 t1) (k2 : U16 t2) (hv : Sl encU 1 w w.heap.size v s) (hs : ∀ n ∈ s, U16 n) (hl : 0 < s.length) (hl6 : s.length ≤ 6) :
    Calls Try.prog 7 #[.agg #[.int .u16 g0, .int .u16 g1, .int .u16 g2], .agg #[.int .u16 t0, .int .u16 t1, .int .u16 t2], v] w (Ret (.bool true) w) := by
  have L1 := Lib.hid (true_net h0 h1 h2 k0 k1 k2)
  have L2 := Lib.hid (true_E h0 h1 h2 k0 k1 k2 hs hl hl6)
  have L3 := Lib.hid (fun i hi => true_drift h0 h1 h2 k0 k1 k2 hs hl hl6 i hi)
  have m1 := mod_bd h2 h1
  have m2 := mod_bd k2 k1
  unfold U16 at h0 h1 h2 k0 k1 k2
  obtain ⟨h0, h0'⟩ := h0
  obtain ⟨h1, h1'⟩ := h1
  obtain ⟨h2, h2'⟩ := h2
  obtain ⟨k0, k0'⟩ := k0
  obtain ⟨k1, k1'⟩ := k1
  obtain ⟨k2, k2'⟩ := k2
  obtain ⟨m1, m1'⟩ := m1
  obtain ⟨m2, m2'⟩ := m2
  obtain ⟨a3, c3, rfl, hl3, hA3⟩ := hv
  have HA3 := Lib.hid hA3
  have HS := Lib.hid hs
  clear hA3 hs
  have hne : ((s.length : Int) == 0) = false := beq_eq_false_iff_ne.2 (by omega)
  go_enter Try.func7, Try.ntmps7
  go_wp2_with fail
  refine (awake16 _).mono ?_
  rintro e w1 ⟨rfl, hb1⟩
  have HB1 := Lib.hid ((((Below.refl w.heap.size w).alloc (Nat.le_refl _) (.cells #[.int .u16 g0, .int .u16 g1, .int .u16 g2] 55)).alloc (by simp) (.cells #[.int .u16 t0, .int .u16 t1, .int .u16 t2] 55)).trans (hb1.mono (by simp; omega)))
  have hxg := ((Box.new w #[.int .u16 g0, .int .u16 g1, .int .u16 g2] 55).alloc (.cells #[.int .u16 t0, .int .u16 t1, .int .u16 t2] 55)).later hb1
  have hxt := (Box.newAt (w.alloc (.cells #[.int .u16 g0, .int .u16 g1, .int .u16 g2] 55)) #[.int .u16 t0, .int .u16 t1, .int .u16 t2] 55 (n := w.heap.size + 1) (by simp)).later hb1
  have g_0 := hxg.cell 0
  have g_1 := hxg.cell 1
  have g_2 := hxg.cell 2
  have t_0 := hxt.cell 0
  have t_1 := hxt.cell 1
  have t_2 := hxt.cell 2
  have gz := hxg.lt
  have tz := hxt.lt
  simp only [List.getElem?_cons_zero, List.getElem?_cons_succ] at g_0 g_1 g_2 t_0 t_1 t_2
  have HXG := Lib.hid hxg
  have HXT := Lib.hid hxt
  clear hb1 hxg hxt
  go_wp2_with fail
  have hba : Below w1.heap.size w1 ((w1.alloc (.cells #[.int .i64 g0, .int .i64 (g0 + g1)] 24)).alloc (.cells #[.int .i64 t0, .int .i64 (t0 + t1)] 24)) := ((Below.refl _ _).alloc (Nat.le_refl _) _).alloc (by simp) _
  have hxg := HXG.out.later hba
  have hxt := HXT.out.later hba
  have hg := (Box.new w1 #[.int .i64 g0, .int .i64 (g0 + g1)] 24).alloc (.cells #[.int .i64 t0, .int .i64 (t0 + t1)] 24)
  have ht := Box.newAt (w1.alloc (.cells #[.int .i64 g0, .int .i64 (g0 + g1)] 24)) #[.int .i64 t0, .int .i64 (t0 + t1)] 24 (n := w1.heap.size + 1) (by simp)
  have HB2 := Lib.hid (HB1.out.trans (hba.mono HB1.out.size))
  generalize (w1.alloc (.cells #[.int .i64 g0, .int .i64 (g0 + g1)] 24)).alloc (.cells #[.int .i64 t0, .int .i64 (t0 + t1)] 24) = W0 at *
  clear g_0 g_1 g_2 t_0 t_1 t_2 gz tz HXG HXT hba HB1
  generalize w1.heap.size = B1 at *
  have g_1 := hxg.cell 1
  have g_2 := hxg.cell 2
  have t_1 := hxt.cell 1
  have t_2 := hxt.cell 2
  have gz := hxg.lt
  have tz := hxt.lt
  have gg := hg.cell 0
  have gg1 := hg.cell 1
  have tt := ht.cell 0
  have tt1 := ht.cell 1
  have ggz := hg.lt
  have ttz := ht.lt
  simp only [List.getElem?_cons_zero, List.getElem?_cons_succ] at g_1 g_2 t_1 t_2 gg gg1 tt tt1
  go_quiet (fail)
  have hb0 := below_drewN (Below.refl W0.heap.size W0) nq
  have hxt := hxt.later hb0
  have hg := hg.later hb0
  have ht := ht.later hb0
  have HB3 := Lib.hid (HB2.out.trans (hb0.mono HB2.out.size))
  generalize W0.drewN nq = W1 at *
  clear g_1 g_2 t_1 t_2 gz tz gg gg1 tt tt1 ggz ttz hxg hb0 HB2
  have t_1 := hxt.cell 1
  have t_2 := hxt.cell 2
  have tz := hxt.lt
  have tt := ht.cell 0
  have ttz := ht.lt
  simp only [List.getElem?_cons_zero, List.getElem?_cons_succ] at t_1 t_2 tt
  clear nq
  go_wp2_with fail
  go_quiet (fail)
  have hb0 := below_drewN (Below.refl W1.heap.size W1) nq
  have Hg_w2 := Lib.hid (hg.later hb0)
  have Ht_w2 := Lib.hid (ht.later hb0)
  have HB_w2 := Lib.hid (HB3.out.trans (hb0.mono HB3.out.size))
  generalize W1.drewN nq = w2 at *
  clear nq
  clear t_1 t_2 tz tt ttz hxt hg ht hb0 HB3
  have X0 : 0 ≤ g0 + g2 % (g1 + 1) := by omega
  have X1 : g0 + g2 % (g1 + 1) ≤ 131070 := by omega
  have Y0 : 0 ≤ t0 + t2 % (t1 + 1) := by omega
  have Y1 : t0 + t2 % (t1 + 1) ≤ 131070 := by omega
  generalize g0 + g2 % (g1 + 1) = X at *
  generalize t0 + t2 % (t1 + 1) = Y at *
  clear m1 m1' m2 m2'
  obtain ⟨nF, hnF⟩ : ∃ x : Rg, netF ⟨g0, g0 + g1⟩ ⟨t0, t0 + t1⟩ = x := ⟨_, rfl⟩
  obtain ⟨nB, hnB⟩ : ∃ x : Int, netB ⟨g0, g0 + g1⟩ ⟨t0, t0 + t1⟩ = x := ⟨_, rfl⟩
  have C36 := Lib.hid (fun w1 => net36 ⟨g0, g0 + g1⟩ ⟨t0, t0 + t1⟩ w1)
  rw [hnF, hnB] at C36
  rw [hnF, hnB] at L1
  clear hnF hnB
  obtain ⟨x0, x1, xf, xz⟩ := Hg_w2.out.v2
  obtain ⟨y0, y1, yf, yz⟩ := Ht_w2.out.v2
  go_wp2_with fail
  refine (C36.out _).mono ?_
  rintro e w3 ⟨rfl, hb⟩
  have Hg_w3 := Lib.hid (Hg_w2.out.later hb)
  have Ht_w3 := Lib.hid (Ht_w2.out.later hb)
  have HB_w3 := Lib.hid (HB_w2.out.trans (hb.mono HB_w2.out.size))
  clear hb x0 x1 xf xz y0 y1 yf yz Hg_w2 Ht_w2 HB_w2
  obtain ⟨x0, x1, xf, xz⟩ := Hg_w3.out.v2
  obtain ⟨y0, y1, yf, yz⟩ := Ht_w3.out.v2
  have HX : Hid (Y ≤ X → nB = 0 ∧ nF.lo ≤ X - Y ∧ X - Y ≤ nF.hi) := Lib.hid L1.out.2
  obtain ⟨nl, nh⟩ := nF
  dsimp only at *
  have hcase : (Y ≤ X ∧ nB = 0 ∧ nl ≤ X - Y ∧ X - Y ≤ nh) ∨ ¬ Y ≤ X := by
    by_cases h : Y ≤ X
    · exact .inl ⟨h, HX.out h⟩
    · exact .inr h
  have HTT : Hid (∀ (k : Nat) (hk : k < s.length), (driftAt s ⟨g0, g0 + g1⟩ ⟨t0, t0 + t1⟩ k).lo * ((s.length : Int) + 1) ≤ s[k] * ((s.length : Int) + 1) - (X * ((s.length : Int) - k) + Y * ((k : Int) + 1)) ∧
      s[k] * ((s.length : Int) + 1) - (X * ((s.length : Int) - k) + Y * ((k : Int) + 1)) ≤ (driftAt s ⟨g0, g0 + g1⟩ ⟨t0, t0 + t1⟩ k).hi * ((s.length : Int) + 1)) := Lib.hid (fun k hk => (L3.out k hk).1)
  have HTB : Hid (∀ (k : Nat) (hk : k < s.length), -99999999 ≤ (driftAt s ⟨g0, g0 + g1⟩ ⟨t0, t0 + t1⟩ k).lo ∧ (driftAt s ⟨g0, g0 + g1⟩ ⟨t0, t0 + t1⟩ k).lo ≤ 99999999 ∧ -99999999 ≤ (driftAt s ⟨g0, g0 + g1⟩ ⟨t0, t0 + t1⟩ k).hi ∧ (driftAt s ⟨g0, g0 + g1⟩ ⟨t0, t0 + t1⟩ k).hi ≤ 99999999) := Lib.hid (fun k hk => (L3.out k hk).2)
  have HDL := Lib.hid (fun k hk => driftL_get s ⟨g0, g0 + g1⟩ ⟨t0, t0 + t1⟩ k hk)
  have HDN := Lib.hid (driftL_length s ⟨g0, g0 + g1⟩ ⟨t0, t0 + t1⟩)
  have C17 := Lib.hid (fun v w1 hv => drift17 v s ⟨g0, g0 + g1⟩ ⟨t0, t0 + t1⟩ w1 hv)
  rw [L2.out.1, L2.out.2] at C17
  obtain ⟨L, hL⟩ : ∃ L, driftL s ⟨g0, g0 + g1⟩ ⟨t0, t0 + t1⟩ = L := ⟨_, rfl⟩
  rw [hL] at C17 HDL HDN
  clear hL HX L1 L2 L3
  have hba : Below w3.heap.size w3 (w3.alloc (.cells #[.int .i64 nl, .int .i64 nh] 24)) := (Below.refl _ _).alloc (Nat.le_refl _) _
  have Hg_w4 := Lib.hid (Hg_w3.out.later hba)
  have Ht_w4 := Lib.hid (Ht_w3.out.later hba)
  have HB_w4 := Lib.hid (HB_w3.out.trans (hba.mono HB_w3.out.size))
  clear hba
  rcases hcase with ⟨hxy, rfl, e2, e3⟩ | hxy
  all_goals
    go_wp2_with fail
    generalize w3.alloc (.cells #[.int .i64 nl, .int .i64 nh] 24) = W4 at *
    clear x0 x1 xf xz y0 y1 yf yz Hg_w3 Ht_w3 HB_w3
    have HG1 := Lib.hid Hg_w4.out.lt
    have HG2 := Lib.hid Ht_w4.out.lt
    have HG3 := Lib.hid HB_w4.out.size
    obtain ⟨N4, hN4⟩ : ∃ N4, W4.heap.size = N4 := ⟨_, rfl⟩
    rw [hN4] at HG1 HG2 HG3
    have HN4 := Lib.hid hN4
    clear hN4
    go_loopw [13, 14] (fun o i wr => ∃ (k : Nat) (vo : Value) (od : List Int), k ≤ s.length ∧ i = .int .i64 k ∧ o = vo ∧ od = s.take k ∧ Own encI 1 3 wr N4 vo od ∧ Below w.heap.size w wr ∧ N4 ≤ wr.heap.size ∧ Box wr B1 24 [.int .i64 g0, .int .i64 (g0 + g1)] ∧ Box wr (B1 + 1) 24 [.int .i64 t0, .int .i64 (t0 + t1)]) (fun _ i _ => s.length - (intOf i).toNat)
    case atStart => exact ⟨0, _, [], by omega, rfl, rfl, rfl, Own.nil _ _ _ _ _, HB_w4.out, by rw [HN4.out]; exact Nat.le_refl _, Hg_w4.out, Ht_w4.out⟩
    case round =>
      clear Hg_w4 Ht_w4 HB_w4
      obtain ⟨k, vo, od, hk, rfl, rfl, hod, hown, hbe, hnz, hg, ht⟩ := hrel
      have HOD := Lib.hid hod
      clear hod
      obtain ⟨av, cv, rfl⟩ := hown.shape
      by_cases hlt : k < s.length
      · obtain ⟨bb, off, rfl, hbb, hcells⟩ := HA3.out (by omega)
        have f0 := ((hcells k hlt).below hbe hbb).c1
        rw [Nat.mul_one] at f0
        have hsk := HS.out s[k] (List.getElem_mem hlt)
        unfold U16 at hsk
        obtain ⟨hk0, hk1⟩ := hsk
        have HTK := Lib.hid (take_snoc s k hlt)
        obtain ⟨y, hy⟩ : ∃ y, s[k] = y := ⟨_, rfl⟩
        rw [hy] at f0 hk0 hk1 HTK
        clear hy hcells HA3
        have HOW := Lib.hid hown
        have HOL := Lib.hid (show od.length ≤ 1000000 by rw [HOD.out]; have := List.length_take_le k s; omega)
        have HBE := Lib.hid hbe
        have HNZ := Lib.hid hnz
        have HGG := Lib.hid hg
        have HTTT := Lib.hid ht
        clear hown hbe hnz hg ht
        go_wp2_with (at_builtin; refine wpList_push encI 1 8 22 3 _ Try.underlying22 Try.infoI rfl (by decide) (by decide) encI_len encI_one od y N4 wr _ rfl _ HOW.out HNZ.out HOL.out rfl _ _ rfl rfl rfl ?_; intro v' w' hown' hg'; have HOW2 := Lib.hid hown'; have HGR := Lib.hid hg'; clear hown' hg')
        go_roundw
        case rel => exact ⟨k + 1, _, od ++ [y], by omega, by go_num, rfl, by rw [HOD.out, HTK.out], HOW2.out, HBE.out.grown HGR.out HBE.out.size (fun j hj => by have := HOW.out.lt' j hj; have := HG3.out; omega), Nat.le_trans HNZ.out HGR.out.size, HGG.out.grown HGR.out (HOW.out.ne HG1.out), HTTT.out.grown HGR.out (HOW.out.ne HG2.out)⟩
        case measure => simp [intOf]; omega
      · obtain rfl : s.length = k := by omega
        have hos : od = s := by rw [HOD.out, List.take_length]
        subst hos
        have hsv := hown.toSl encI_len (by omega)
        have HSV := Lib.hid hsv
        have C := Lib.hid (C17.out _ wr hsv)
        obtain ⟨x0, x1, xf, xz⟩ := hg.v2
        obtain ⟨y0, y1, yf, yz⟩ := ht.v2
        have HBE := Lib.hid hbe
        clear hsv hown hg ht hbe hnz HA3
        go_wp2_with fail
        refine C.out.mono ?_
        rintro e w6 ⟨vd, rfl, hsd, hb⟩
        have HB6 := Lib.hid (HBE.out.trans (hb.mono HBE.out.size))
        have HSV6 := Lib.hid (HSV.out.later hb)
        have HSD6 := Lib.hid hsd
        obtain ⟨ad, cd, rfl, _, _⟩ := hsd
        rw [HDN.out] at HSD6 ⊢
        clear hb x0 x1 xf xz y0 y1 yf yz C HBE HSV
        go_wp2_with fail
        go_loopw [17] (fun i wr => ∃ k : Nat, k ≤ od.length ∧ i = .int .i64 k ∧ Below w.heap.size w wr ∧ Sl encI 1 wr wr.heap.size (.slice av od.length cv) od ∧ Sl Rg.enc 2 wr wr.heap.size (.slice ad od.length cd) L) (fun i _ => od.length - (intOf i).toNat)
        case atStart => exact ⟨0, by omega, rfl, HB6.out, HSV6.out, HSD6.out⟩
        case round =>
          clear HB6 HSV6 HSD6
          obtain ⟨k, hk, rfl, hbe, hsv, hsd⟩ := hrel
          by_cases hlt : k < od.length
          · have HSV := Lib.hid hsv
            have HSD := Lib.hid hsd
            have hLl : k < L.length := by rw [HDN.out]; exact hlt
            obtain ⟨_, _, e0, _, hA⟩ := hsv
            obtain ⟨bs, os, e1, _, hsc⟩ := hA (by omega)
            cases e0
            subst e1
            obtain ⟨_, _, e0, _, hA⟩ := hsd
            obtain ⟨bd, dd, e1, _, hdc⟩ := hA (by omega)
            injection e0 with e2 e3 e4
            subst e2
            subst e1
            clear e3 e4
            have f0 := (hsc k hlt).c1
            rw [Nat.mul_one] at f0
            obtain ⟨d0, d1⟩ := (hdc k hLl).c2
            have hgt := HDL.out k hlt
            rw [List.getElem?_eq_getElem hLl] at hgt
            have hgt' := Option.some.inj hgt
            obtain ⟨q1, q2⟩ := HTT.out k hlt
            obtain ⟨q3, q4, q5, q6⟩ := HTB.out k hlt
            have hsk := HS.out od[k] (List.getElem_mem hlt)
            unfold U16 at hsk
            obtain ⟨hk0, hk1⟩ := hsk
            rw [hgt'] at d0 d1
            generalize driftAt od ⟨g0, g0 + g1⟩ ⟨t0, t0 + t1⟩ k = D at *
            obtain ⟨lo, hi⟩ := D
            obtain ⟨y, hy⟩ : ∃ y, od[k] = y := ⟨_, rfl⟩
            rw [hy] at f0 q1 q2 hk0 hk1
            clear hy hgt hgt' hdc hsc hA
            dsimp only at *
            have r1 : 0 ≤ X * ((od.length : Int) - k) := Int.mul_nonneg (by omega) (by omega)
            have r2 : X * ((od.length : Int) - k) ≤ 131070 * 6 := Int.mul_le_mul (by omega) (by omega) (by omega) (by omega)
            have r3 : 0 ≤ Y * ((k : Int) + 1) := Int.mul_nonneg (by omega) (by omega)
            have r4 : Y * ((k : Int) + 1) ≤ 131070 * 6 := Int.mul_le_mul (by omega) (by omega) (by omega) (by omega)
            have r5 : 0 ≤ y * ((od.length : Int) + 1) := Int.mul_nonneg (by omega) (by omega)
            have r6 : y * ((od.length : Int) + 1) ≤ 65535 * 7 := Int.mul_le_mul (by omega) (by omega) (by omega) (by omega)
            have r7 := mul_bd lo ((od.length : Int) + 1) 99999999 7 ⟨by omega, by omega⟩ ⟨by omega, by omega⟩ (by omega)
            have r8 := mul_bd hi ((od.length : Int) + 1) 99999999 7 ⟨by omega, by omega⟩ ⟨by omega, by omega⟩ (by omega)
            obtain ⟨r7, r9⟩ := r7
            obtain ⟨r8, r10⟩ := r8
            go_wp2_with fail
            have w1 : IntKind.i64.wrap (lo * ((od.length : Int) + 1)) = lo * ((od.length : Int) + 1) := IntWalk.i64_in _ (by omega)
            have w2 : IntKind.i64.wrap (y * ((od.length : Int) + 1)) = y * ((od.length : Int) + 1) := IntWalk.i64_in _ (by omega)
            have w3 : IntKind.i64.wrap (y * ((od.length : Int) + 1) - (X * ((od.length : Int) - k) + Y * ((k : Int) + 1))) = y * ((od.length : Int) + 1) - (X * ((od.length : Int) - k) + Y * ((k : Int) + 1)) := IntWalk.i64_in _ (by omega)
            have w4 : IntKind.i64.wrap (hi * ((od.length : Int) + 1)) = hi * ((od.length : Int) + 1) := IntWalk.i64_in _ (by omega)
            have b1 : decide (y * ((od.length : Int) + 1) - (X * ((od.length : Int) - k) + Y * ((k : Int) + 1)) < lo * ((od.length : Int) + 1)) = false := decide_eq_false (by omega)
            have b2 : decide (hi * ((od.length : Int) + 1) < y * ((od.length : Int) + 1) - (X * ((od.length : Int) - k) + Y * ((k : Int) + 1))) = false := decide_eq_false (by omega)
            go_quiet (fail)
            clear w1 w2 w3 w4 b1 b2
            go_wp2_with fail
            go_roundw
            case rel => exact ⟨k + 1, by omega, by go_num, below_drewN hbe _, HSV.out.later (below_drewN (Below.refl _ _) _), HSD.out.later (below_drewN (Below.refl _ _) _)⟩
            case measure => simp [intOf]; omega
          · obtain rfl : od.length = k := by omega
            have HBE := Lib.hid hbe
            clear hbe hsv hsd
            go_wp2_with fail
            go_ret
            exact ⟨rfl, HBE.out⟩
end Go.Proofs.Ytlakcghdehdeiaa

/- What the rows of the laws need: numbers of 16 bits. -/
namespace Go.Proofs.Ytlakcghdehdeiaa
open Go Go.Proofs Go.RowKit Go.ChangeShapes Go.WideShapes Go.ChangeAt Go.Joins Go.Deep

theorem u16_of {x : Int} (h : (Lit.int .u16 x).wf = true) : U16 x := by
  unfold U16
  simpa [Lit.wf, IntKind.min, IntKind.max, IntKind.signed, IntKind.bits] using h
theorem u8_of {x : Int} (h : (Lit.int .u8 x).wf = true) : 0 ≤ x ∧ x ≤ 255 := by
  simpa [Lit.wf, IntKind.min, IntKind.max, IntKind.signed, IntKind.bits] using h
theorem i64_of {x : Int} (h : (Lit.int .i64 x).wf = true) : -9223372036854775808 ≤ x ∧ x ≤ 9223372036854775807 := by
  simpa [Lit.wf, IntKind.min, IntKind.max, IntKind.signed, IntKind.bits] using h
section
variable {H : Type} {enc : TypeId × Value → H} {W W' : World}
set_option maxRecDepth 100000 in
/-- Three numbers of 16 bits by value. -/
theorem arr3_open {r : Reach} {b0 : Nat} {v : Value} {d : DataW H} {p : List MemPlace} (hv : Value.okWide Try.prog W r b0 55 v) (h : DataW.Trod enc Try.prog W 0 (fun _ => true) true 55 v d p) :
    ∃ x y z : Int, v = .agg #[.int .u16 x, .int .u16 y, .int .u16 z] ∧ U16 x ∧ U16 y ∧ U16 z := by
  have hv2 := hv
  simp only [Value.okWide, Try.underlying55] at hv2
  obtain ⟨cs, rfl, hsz⟩ : ∃ cs, v = .agg cs ∧ cs.size = Try.prog.cellsOf 55 := by
    obtain ⟨cs, h1, h2, _⟩ := hv2
    exact ⟨cs, h1, h2⟩
  rw [show Try.prog.cellsOf 55 = 3 from by kernel_rfl] at hsz
  obtain ⟨c0, c1, c2, rfl⟩ := array3 hsz
  obtain ⟨fuel, hf⟩ := h
  obtain ⟨xs, m, _, _, _, hx, hg⟩ := DataW.trod_array Try.underlying55 hf
  rw [show Try.prog.cellsOf 54 = 1 from by kernel_rfl] at hg
  have g0 := hg 0 (by omega)
  have g1 := hg 1 (by omega)
  have g2 := hg 2 (by omega)
  rw [List.getElem?_eq_getElem (show 0 < xs.length by omega)] at g0
  rw [List.getElem?_eq_getElem (show 1 < xs.length by omega)] at g1
  rw [List.getElem?_eq_getElem (show 2 < xs.length by omega)] at g2
  obtain ⟨x, e0, _, w0⟩ := DataW.trod_int Try.underlying54 g0
  obtain ⟨y, e1, _, w1⟩ := DataW.trod_int Try.underlying54 g1
  obtain ⟨z, e2, _, w2⟩ := DataW.trod_int Try.underlying54 g2
  simp [Value.cells] at e0 e1 e2
  subst e0 e1 e2
  exact ⟨x, y, z, rfl, u16_of w0, u16_of w1, u16_of w2⟩
set_option maxRecDepth 100000 in
theorem sl_u16s {n c : Nat} {a : Option Addr} {d : DataW H} {p : List MemPlace} (h : DataW.Trod enc Try.prog W 0 (fun _ => true) true 56 (.slice a n c) d p) :
    n ≤ 9223372036854775807 ∧ (n ≤ 1000000000 → ∃ l, l.length = n ∧ Sl encU 1 W W.heap.size (.slice a n c) l ∧ ∀ x ∈ l, U16 x) := by
  obtain ⟨fuel, hf⟩ := h
  rcases open_ints Try.underlying56 Try.underlying54 (by kernel_rfl) hf with ⟨hcs, _⟩ | ⟨a', len, cap, zs, hcs, _, hl, hm, hz, _, hcell, hwf⟩
  · simp [Value.cells] at hcs
    obtain ⟨rfl, rfl, rfl⟩ := hcs
    exact ⟨by omega, fun _ => ⟨[], rfl, Sl.nil _ _ _ _ _ _, by simp⟩⟩
  · simp [Value.cells] at hcs
    obtain ⟨rfl, rfl, rfl⟩ := hcs
    simp only [if_true] at hz
    refine ⟨by unfold maxLen at hm; omega, fun hn => ?_⟩
    obtain ⟨l, e1, e2, e3⟩ := sl_make (c := c) (a := a') encU 1 (by omega) (fun _ => rfl) hn 0 (fun i hi => ⟨zs.getD i 0, fun j u hu => by
      match j, hu with
      | 0, hu => simp [encU] at hu; rw [Nat.mul_one, Nat.add_zero, hcell i (by omega), ← hu]; simp⟩)
    refine ⟨l, e1, e2, fun x hx => ?_⟩
    obtain ⟨i, hi, rfl⟩ := List.mem_iff_getElem.1 hx
    have g := e3 i hi 0 _ rfl
    rw [Nat.mul_one, Nat.add_zero, hcell i (by omega)] at g
    injection g with g
    injection g with _ g
    rw [← g]
    refine u16_of (hwf _ ?_)
    rw [List.getD_eq_getElem?_getD, List.getElem?_eq_getElem (by omega)]
    exact List.getElem_mem _
end
end Go.Proofs.Ytlakcghdehdeiaa

namespace Go.Proofs.Ytlakcghdehdeiaa
open Go Go.Proofs Go.RowKit Go.ChangeShapes Go.WideShapes Go.ChangeAt Go.Joins Go.Deep

set_option maxRecDepth 100000 in
theorem weighTrue_contract (H : Type) (enc : TypeId × Value → H) (W : World) (base : Nat) (args : Array Value) (ds gs : List (DataW H)) (before : List MemPlace)
    (hval : ∀ (j : Nat) t v, Try.f7.params[j]? = some t → args[j]? = some v → Value.okWide Try.prog W .any base t v)
    (hW : DataW.Whole enc Try.prog Try.f7.params.toList Rows.weighTrueSpec.vars false W args.toList ds gs before) :
    Calls Try.prog 7 args W fun e W' => ∃ v, e = .returned v ∧ Rows.weighTrueSpec.post enc Try.prog Try.f7 false true false false W args v W' := by
  have hW' := hW
  obtain ⟨p, q, hA0, hV, rfl, hfz, hnd⟩ := hW
  have hA : DataW.TrodAll enc Try.prog W 0 (fun _ => true) true Try.f7.params.toList args.toList ds p := hA0
  rw [Try.params7] at hA hval
  obtain ⟨v0, v1, v2, d0, d1, d2, p0, p1, p2, rfl, rfl, rfl, h0, h1, h2⟩ := trodAll_three hA
  obtain ⟨x0, y0, z0, rfl, hn0⟩ := arr3_open (hval 0 55 v0 rfl rfl) h0
  obtain ⟨x1, y1, z1, rfl, hn1⟩ := arr3_open (hval 1 55 v1 rfl rfl) h1
  obtain ⟨a2, n2, c2, rfl⟩ := okWide_slice Try.underlying56 (hval 2 56 v2 rfl rfl)
  obtain ⟨hn2, hl2⟩ := sl_u16s h2
  have key : Calls Try.prog 7 #[.agg #[.int .u16 x0, .int .u16 y0, .int .u16 z0], .agg #[.int .u16 x1, .int .u16 y1, .int .u16 z1], .slice a2 n2 c2] W (Ret (.bool true) W) := by
    obtain ⟨hx0, hy0, hz0⟩ := hn0
    obtain ⟨hx1, hy1, hz1⟩ := hn1
    by_cases hbig : n2 = 0 ∨ 6 < n2
    · exact true7_aside x0 y0 z0 x1 y1 z1 a2 n2 c2 W hn2 hbig
    · obtain ⟨l, hll, hs, hu⟩ := hl2 (by omega)
      exact true7 x0 y0 z0 x1 y1 z1 _ l W hx0 hy0 hz0 hx1 hy1 hz1 hs hu (by omega) (by omega)
  refine key.mono fun e W' ⟨he, hb⟩ => ⟨_, he, ?_⟩
  exact law_post rfl rfl rfl (by rw [Try.params7]; decide) hW' rfl rfl rfl hb

set_option maxRecDepth 100000 in
theorem weighTrue_lifted (os : Os) (started : os.Started) (H : Type) (enc : TypeId × Value → H) :
    ReturnsInHanded {} Try.checked os 7 .any (Rows.weighTrueSpec.pre6 enc Try.prog Try.f7 Rows.weighTrueRow.domain false) (Rows.weighTrueSpec.post enc Try.prog Try.f7 false true false false) := by
  refine returnsInHanded_of_change (C := Try.checked) Try.own started (by kernel_rfl) Try.func7
    (ChangeSpec.witness6 (enc := enc) (C := Try.checked) false ⟨#[], #[.agg #[.int .u16 0, .int .u16 0, .int .u16 0], .agg #[.int .u16 0, .int .u16 0, .int .u16 0], .slice none 0 0], []⟩ 8 (by kernel_rfl) (by kernel_rfl) (by kernel_rfl) (by kernel_rfl)) ?_
  intro W base args ds gs before hval hW _ _
  exact weighTrue_contract H enc W base args ds gs before hval hW

theorem weighTrue_holds : Rows.WeighTrueSaid :=
  OpenClaim.holds_of_wide 7 Try.f7 rfl rfl rfl rfl rfl rfl rfl ⟨rfl, rfl, rfl, rfl, rfl⟩ rfl rfl rfl rfl rfl (by kernel_rfl) Try.func7 (by kernel_rfl)
    (of_decide_eq_true (by kernel_rfl)) (by unfold Func.isWrapper; first | (rw [if_pos (by decide +kernel)]; kernel_rfl) | (rw [if_neg (by decide +kernel)]; exact ⟨rfl, rfl⟩))
    (fun os started H enc _ => weighTrue_lifted os started H enc)
end Go.Proofs.Ytlakcghdehdeiaa
