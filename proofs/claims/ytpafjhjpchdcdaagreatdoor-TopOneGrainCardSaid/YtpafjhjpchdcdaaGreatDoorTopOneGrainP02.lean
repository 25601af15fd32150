/- Lemmas on the way to the law TopOneGrain (part 2): YAa YAb YAc YAd -/
import Derived.Test.YtpafjhjpchdcdaaGreatDoorTopOneGrainP01
import Derived.IntWalk
import Derived.RegionTactic
import Derived.BigRegion
import Derived.Shelf.Abstract
set_option linter.unusedVariables false
set_option linter.unusedSimpArgs false

/- Walks: the kinds of machines. -/
namespace Go.Proofs.YtpafjhjpchdcdaaGreatDoor
open Go Go.Proofs Go.RowKit
def encS (s : ByteArray) : List Value := [.string s]
def wordL : List ByteArray := [⟨#[112, 105, 116]⟩, ⟨#[98, 105, 110]⟩, ⟨#[115, 112, 111, 117, 116]⟩, ⟨#[98, 101, 108, 116]⟩, ⟨#[108, 101, 103]⟩, ⟨#[103, 97, 116, 101]⟩, ⟨#[100, 105, 115, 116, 114, 105, 98, 117, 116, 111, 114]⟩, ⟨#[115, 99, 97, 108, 101]⟩]
def WdR (w : World) : Prop := Sl encS 1 w w.heap.size (.slice (some ⟨0, 0, none⟩) 8 8) wordL
theorem WdR.later {w w' : World} (h : WdR w) (hb : Below w.heap.size w w') : WdR w' := Sl.later h hb
def idxS : List ByteArray → ByteArray → Nat → Int
  | [], _, _ => -1
  | x :: r, s, k => if s.toList == x.toList then k else idxS r s (k + 1)
theorem idxS_drop (l : List ByteArray) (s : ByteArray) (k : Nat) (h : k < l.length) : idxS (l.drop k) s k = if s.toList == l[k].toList then (k : Int) else idxS (l.drop (k + 1)) s (k + 1) := by
  rw [List.drop_eq_getElem_cons h]; rfl
set_option maxRecDepth 100000 in
set_option maxHeartbeats 1000000 in
theorem index143 (v : Value) (l : List ByteArray) (s : ByteArray) (w : World) (hv : Sl encS 1 w w.heap.size v l) : Calls Tryz.prog 64 #[v, .string s] w (Ret (.int .i64 (idxS l s 0)) w) := by
  obtain ⟨a, c, rfl, hlen, hA⟩ := hv
  have HA := Lib.hid hA
  clear hA
  obtain ⟨R, hR⟩ : ∃ R, idxS l s 0 = R := ⟨_, rfl⟩
  rw [hR]
  have HR := Lib.hid hR
  clear hR
  go_enter Tryz.func64, Tryz.ntmps64
  go_wp2_with fail
  go_loop [8] (fun i => ∃ k : Nat, k ≤ l.length ∧ i = .int .i64 k ∧ idxS (l.drop k) s k = R) (fun i => l.length - (intOf i).toNat)
  case atStart => exact ⟨0, by omega, rfl, HR.out⟩
  case round =>
    obtain ⟨k, hk, rfl, hrel⟩ := hrel
    have HN := Lib.hid hrel
    clear hrel
    by_cases hlt : k < l.length
    · obtain ⟨b, off, rfl, hbb, hcells⟩ := HA.out (by omega)
      have hd := Lib.hid (idxS_drop l s k hlt)
      have c0 := (hcells k hlt).c1
      rw [Nat.mul_one] at c0
      clear hcells HA
      generalize l[k] = y at *
      obtain ⟨q, hq⟩ : ∃ q, (s.toList == y.toList) = q := ⟨_, rfl⟩
      cases q with
      | true =>
        go_wp2_with fail
        go_ret
        exact Ret.mk (by have := HN.out; rw [hd.out, if_pos hq] at this; rw [← this]; rfl) (Below.refl _ _)
      | false =>
        go_wp2_with fail
        go_round
        case rel => exact ⟨k + 1, by omega, by go_num, by have := HN.out; rw [hd.out, if_neg (by rw [hq]; simp)] at this; exact this⟩
        case measure => simp [intOf]; omega
    · obtain rfl : l.length = k := by omega
      go_wp2_with fail
      go_ret
      exact Ret.mk (by have := HN.out; rw [List.drop_length] at this; rw [← this]; rfl) (Below.refl _ _)
def kn (s : ByteArray) : Int := idxS wordL s 0
set_option maxRecDepth 100000 in
set_option maxHeartbeats 1000000 in
theorem kindOf94 (s : ByteArray) (t : Int) (w : World) (hw : WdR w) : Calls Tryz.prog 34 #[.agg #[.string s, .int .i64 t]] w (Ret (.int .i64 (kn s)) w) := by
  have HI := Lib.hid (fun (w1 : World) (hb : Below w.heap.size w w1) => index143 _ wordL s w1 (hw.later hb))
  have HB := Lib.hid ((Below.refl w.heap.size w).alloc (Nat.le_refl _) (.cells #[.string s, .int .i64 t] 43))
  go_enter Tryz.func34, Tryz.ntmps34
  go_wp2_with fail
  refine wp_region_head_drew 3 (by kernel_rfl) (by kernel_rfl) ?_
  simp only [List.take_succ_cons, List.take_zero, List.drop_succ_cons, List.drop_zero]
  repeat go_big_quiet_step (fail)
  refine wpQuiet_nil ?_
  rintro _ ⟨nq, rfl⟩
  go_wp2_with fail
  refine (HI.out _ (below_drewN HB.out nq)).mono ?_
  rintro e w2 ⟨rfl, hb2⟩
  go_wp2_with fail
  refine bodyPost_ret (v := .int .i64 (kn s)) (by simp [results, Tryz.results34, go_sem, *, kn]) rfl ?_
  exact ⟨rfl, (below_drewN HB.out nq).trans (hb2.mono HB.out.size)⟩
def cvB (s : ByteArray) : Bool := decide (3 ≤ kn s)
def bgB (s : ByteArray) : Bool := decide (kn s = 0) || decide (kn s = 1)
def enB (s : ByteArray) : Bool := decide (kn s = 1) || decide (kn s = 2)
def kpB (s : ByteArray) : Bool := decide (kn s ≠ 0) && decide (kn s ≠ 2)
set_option maxRecDepth 100000 in
set_option maxHeartbeats 1000000 in
theorem conveys84 (s : ByteArray) (t : Int) (w : World) (hw : WdR w) : Calls Tryz.prog 36 #[.agg #[.string s, .int .i64 t]] w (Ret (.bool (cvB s)) w) := by
  have HK := Lib.hid (fun (w1 : World) (hb : Below w.heap.size w w1) => kindOf94 s t w1 (hw.later hb))
  have HB := Lib.hid ((Below.refl w.heap.size w).alloc (Nat.le_refl _) (.cells #[.string s, .int .i64 t] 43))
  obtain ⟨R, hR⟩ : ∃ R, cvB s = R := ⟨_, rfl⟩
  rw [hR]
  obtain ⟨n, hn⟩ : ∃ n, kn s = n := ⟨_, rfl⟩
  unfold cvB at hR
  rw [hn] at HK hR
  go_enter Tryz.func36, Tryz.ntmps36
  go_wp2_with fail
  refine (HK.out _ HB.out).mono ?_
  rintro e w2 ⟨rfl, hb2⟩
  go_wp2_with fail
  go_ret
  exact ⟨rfl, HB.out.trans (hb2.mono HB.out.size)⟩
set_option maxRecDepth 100000 in
set_option maxHeartbeats 1000000 in
theorem begins80 (s : ByteArray) (t : Int) (w : World) (hw : WdR w) : Calls Tryz.prog 81 #[.agg #[.string s, .int .i64 t]] w (Ret (.bool (bgB s)) w) := by
  have HK := Lib.hid (fun (w1 : World) (hb : Below w.heap.size w w1) => kindOf94 s t w1 (hw.later hb))
  have HB := Lib.hid ((Below.refl w.heap.size w).alloc (Nat.le_refl _) (.cells #[.string s, .int .i64 t] 43))
  have HX := Lib.hid (Box.new w #[.string s, .int .i64 t] 43)
  obtain ⟨n, hn⟩ : ∃ n, kn s = n := ⟨_, rfl⟩
  unfold bgB
  rw [hn] at HK ⊢
  clear hn
  go_enter Tryz.func81, Tryz.ntmps81
  by_cases h0 : n = 0
  · have k0 : (n == 0) = true := beq_iff_eq.2 h0
    have HF := Lib.hid (show (decide (n = 0) || decide (n = 1)) = true by simp [h0])
    rw [HF.out]
    clear h0
    go_wp2_with fail
    refine (HK.out _ HB.out).mono ?_
    rintro e w2 ⟨rfl, hb2⟩
    go_wp2_with fail
    go_ret
    exact ⟨rfl, HB.out.trans (hb2.mono HB.out.size)⟩
  · have k0 : (n == 0) = false := beq_eq_false_iff_ne.2 h0
    have HF := Lib.hid (show (decide (n = 0) || decide (n = 1)) = (n == 1) by simp [h0]; rfl)
    rw [HF.out]
    clear h0
    go_wp2_with fail
    refine (HK.out _ HB.out).mono ?_
    rintro e w2 ⟨rfl, hb2⟩
    have HB2 := Lib.hid (HB.out.trans (hb2.mono HB.out.size))
    obtain ⟨x0, x1, xf, xz⟩ := (HX.out.later hb2).v2
    clear hb2
    go_wp2_with fail
    refine (HK.out _ HB2.out).mono ?_
    rintro e w3 ⟨rfl, hb3⟩
    go_wp2_with fail
    go_ret
    exact ⟨rfl, HB2.out.trans (hb3.mono HB2.out.size)⟩
set_option maxRecDepth 100000 in
set_option maxHeartbeats 1000000 in
theorem ends81 (s : ByteArray) (t : Int) (w : World) (hw : WdR w) : Calls Tryz.prog 82 #[.agg #[.string s, .int .i64 t]] w (Ret (.bool (enB s)) w) := by
  have HK := Lib.hid (fun (w1 : World) (hb : Below w.heap.size w w1) => kindOf94 s t w1 (hw.later hb))
  have HB := Lib.hid ((Below.refl w.heap.size w).alloc (Nat.le_refl _) (.cells #[.string s, .int .i64 t] 43))
  have HX := Lib.hid (Box.new w #[.string s, .int .i64 t] 43)
  obtain ⟨n, hn⟩ : ∃ n, kn s = n := ⟨_, rfl⟩
  unfold enB
  rw [hn] at HK ⊢
  clear hn
  go_enter Tryz.func82, Tryz.ntmps82
  by_cases h0 : n = 1
  · have k0 : (n == 1) = true := beq_iff_eq.2 h0
    have HF := Lib.hid (show (decide (n = 1) || decide (n = 2)) = true by simp [h0])
    rw [HF.out]
    clear h0
    go_wp2_with fail
    refine (HK.out _ HB.out).mono ?_
    rintro e w2 ⟨rfl, hb2⟩
    go_wp2_with fail
    go_ret
    exact ⟨rfl, HB.out.trans (hb2.mono HB.out.size)⟩
  · have k0 : (n == 1) = false := beq_eq_false_iff_ne.2 h0
    have HF := Lib.hid (show (decide (n = 1) || decide (n = 2)) = (n == 2) by simp [h0]; rfl)
    rw [HF.out]
    clear h0
    go_wp2_with fail
    refine (HK.out _ HB.out).mono ?_
    rintro e w2 ⟨rfl, hb2⟩
    have HB2 := Lib.hid (HB.out.trans (hb2.mono HB.out.size))
    obtain ⟨x0, x1, xf, xz⟩ := (HX.out.later hb2).v2
    clear hb2
    go_wp2_with fail
    refine (HK.out _ HB2.out).mono ?_
    rintro e w3 ⟨rfl, hb3⟩
    go_wp2_with fail
    go_ret
    exact ⟨rfl, HB2.out.trans (hb3.mono HB2.out.size)⟩
set_option maxRecDepth 100000 in
set_option maxHeartbeats 1000000 in
theorem keeps96 (s : ByteArray) (t : Int) (w : World) (hw : WdR w) : Calls Tryz.prog 37 #[.agg #[.string s, .int .i64 t]] w (Ret (.bool (kpB s)) w) := by
  have HK := Lib.hid (fun (w1 : World) (hb : Below w.heap.size w w1) => kindOf94 s t w1 (hw.later hb))
  have HB := Lib.hid ((Below.refl w.heap.size w).alloc (Nat.le_refl _) (.cells #[.string s, .int .i64 t] 43))
  have HX := Lib.hid (Box.new w #[.string s, .int .i64 t] 43)
  obtain ⟨n, hn⟩ : ∃ n, kn s = n := ⟨_, rfl⟩
  unfold kpB
  rw [hn] at HK ⊢
  clear hn
  go_enter Tryz.func37, Tryz.ntmps37
  by_cases h0 : n = 0
  · have k0 : (n != 0) = false := by simp [h0]
    have HF := Lib.hid (show (decide (n ≠ 0) && decide (n ≠ 2)) = false by simp [h0])
    rw [HF.out]
    clear h0
    go_wp2_with fail
    refine (HK.out _ HB.out).mono ?_
    rintro e w2 ⟨rfl, hb2⟩
    go_wp2_with fail
    go_ret
    exact ⟨rfl, HB.out.trans (hb2.mono HB.out.size)⟩
  · have k0 : (n != 0) = true := by simp [h0]
    obtain ⟨q, hq⟩ : ∃ q, (n != 2) = q := ⟨_, rfl⟩
    have HF := Lib.hid (show (decide (n ≠ 0) && decide (n ≠ 2)) = q by rw [← hq]; by_cases h2 : n = 2 <;> simp [h0, h2])
    rw [HF.out]
    clear h0
    go_wp2_with fail
    refine (HK.out _ HB.out).mono ?_
    rintro e w2 ⟨rfl, hb2⟩
    have HB2 := Lib.hid (HB.out.trans (hb2.mono HB.out.size))
    obtain ⟨x0, x1, xf, xz⟩ := (HX.out.later hb2).v2
    clear hb2
    go_wp2_with fail
    refine (HK.out _ HB2.out).mono ?_
    rintro e w3 ⟨rfl, hb3⟩
    go_wp2_with fail
    go_ret
    exact ⟨rfl, HB2.out.trans (hb3.mono HB2.out.size)⟩
def wdl : List (List UInt8) := [[112, 105, 116], [98, 105, 110], [115, 112, 111, 117, 116], [98, 101, 108, 116], [108, 101, 103], [103, 97, 116, 101], [100, 105, 115, 116, 114, 105, 98, 117, 116, 111, 114], [115, 99, 97, 108, 101]]
def isW (s : ByteArray) (k : Nat) : Bool := s.toList == wdl.getD k []
theorem idxS_cons (x : ByteArray) (r : List ByteArray) (s : ByteArray) (k : Nat) : idxS (x :: r) s k = if s.toList == x.data.toList then (k : Int) else idxS r s (k + 1) := by
  rw [← ByteArray.toList_eq]; rfl
theorem kn_eq (s : ByteArray) : kn s = if isW s 0 then 0 else if isW s 1 then 1 else if isW s 2 then 2 else if isW s 3 then 3 else if isW s 4 then 4 else if isW s 5 then 5 else if isW s 6 then 6 else if isW s 7 then 7 else -1 := by
  unfold kn wordL
  simp only [idxS_cons]
  rfl
theorem isW_one {s : ByteArray} {i j : Nat} (hi : i < 8) (hj : j < 8) (h : isW s i = true) (h' : isW s j = true) : i = j := by
  have e : wdl.getD i [] = wdl.getD j [] := by
    have h1 : s.toList = wdl.getD i [] := by simpa only [isW, beq_iff_eq] using h
    have h2 : s.toList = wdl.getD j [] := by simpa only [isW, beq_iff_eq] using h'
    rw [← h1, h2]
  have key : ∀ a, a < 8 → ∀ b, b < 8 → wdl.getD a [] = wdl.getD b [] → a = b := by decide
  exact key i hi j hj e
theorem isW_no {s : ByteArray} {i : Nat} (hi : i < 8) (h : isW s i = true) {j : Nat} (hj : j < 8) (hne : i ≠ j) : isW s j = false := by
  cases h' : isW s j with
  | false => rfl
  | true => exact absurd (isW_one hi hj h h') hne
theorem bgB_eq (s : ByteArray) : bgB s = (isW s 0 || isW s 1) := by
  unfold bgB
  rw [kn_eq]
  cases h0 : isW s 0
  · cases h1 : isW s 1
    · simp only [Bool.false_eq_true, if_false, Bool.or_false]
      generalize isW s 2 = b2
      generalize isW s 3 = b3
      generalize isW s 4 = b4
      generalize isW s 5 = b5
      generalize isW s 6 = b6
      generalize isW s 7 = b7
      revert b2 b3 b4 b5 b6 b7
      decide
    · rfl
  · rfl
theorem enB_eq (s : ByteArray) : enB s = (isW s 1 || isW s 2) := by
  unfold enB
  rw [kn_eq]
  cases h0 : isW s 0
  · generalize isW s 1 = b1
    generalize isW s 2 = b2
    generalize isW s 3 = b3
    generalize isW s 4 = b4
    generalize isW s 5 = b5
    generalize isW s 6 = b6
    generalize isW s 7 = b7
    revert b1 b2 b3 b4 b5 b6 b7
    decide
  · rw [isW_no (by omega) h0 (show 1 < 8 by omega) (by omega), isW_no (by omega) h0 (show 2 < 8 by omega) (by omega)]; rfl
theorem cvB_eq (s : ByteArray) : cvB s = (isW s 3 || isW s 4 || isW s 5 || isW s 6 || isW s 7) := by
  unfold cvB
  rw [kn_eq]
  have key : ∀ i, i < 3 → isW s i = true → (isW s 3 || isW s 4 || isW s 5 || isW s 6 || isW s 7) = false := fun i hi h => by
    rw [isW_no (by omega) h (show 3 < 8 by omega) (by omega), isW_no (by omega) h (show 4 < 8 by omega) (by omega), isW_no (by omega) h (show 5 < 8 by omega) (by omega), isW_no (by omega) h (show 6 < 8 by omega) (by omega), isW_no (by omega) h (show 7 < 8 by omega) (by omega)]; rfl
  cases h0 : isW s 0
  · cases h1 : isW s 1
    · cases h2 : isW s 2
      · generalize isW s 3 = b3
        generalize isW s 4 = b4
        generalize isW s 5 = b5
        generalize isW s 6 = b6
        generalize isW s 7 = b7
        revert b3 b4 b5 b6 b7
        decide
      · rw [key 2 (by omega) h2]; rfl
    · rw [key 1 (by omega) h1]; rfl
  · rw [key 0 (by omega) h0]; rfl
theorem kn_some (s : ByteArray) : decide (0 ≤ kn s) = (cvB s || bgB s || enB s) := by
  have h : ∀ k : Int, -1 ≤ k → k ≤ 7 → decide (0 ≤ k) = (decide (3 ≤ k) || (decide (k = 0) || decide (k = 1)) || (decide (k = 1) || decide (k = 2))) := by
    intro k h1 h2
    have : k = -1 ∨ k = 0 ∨ k = 1 ∨ k = 2 ∨ 3 ≤ k := by omega
    rcases this with rfl | rfl | rfl | rfl | h3
    · rfl
    · rfl
    · rfl
    · rfl
    · rw [decide_eq_true h3, decide_eq_true (show 0 ≤ k by omega)]; rfl
  refine h _ ?_ ?_ <;> rw [kn_eq] <;> repeat (first | decide | split)
end Go.Proofs.YtpafjhjpchdcdaaGreatDoor
/- Walks: the kinds of machines in the reference. -/
namespace Go.Proofs.YtpafjhjpchdcdaaGreatDoor
open Go Go.Proofs Go.RowKit
set_option maxRecDepth 100000 in
set_option maxHeartbeats 1000000 in
theorem isFirst86 (s : ByteArray) (w : World) : Calls Tryz.prog 43 #[.string s] w (fun e w' => e = .returned (.bool (bgB s)) ∧ w = w') := by
  rw [bgB_eq]
  obtain ⟨q0, h0⟩ : ∃ q, isW s 0 = q := ⟨_, rfl⟩
  obtain ⟨q1, h1⟩ : ∃ q, isW s 1 = q := ⟨_, rfl⟩
  rw [h0, h1]
  replace h0 : (s.toList == [112, 105, 116]) = q0 := h0
  replace h1 : (s.toList == [98, 105, 110]) = q1 := h1
  cases q0 <;> cases q1 <;> (go_enter Tryz.func43, Tryz.ntmps43; go_wp2_with fail; go_ret; exact ⟨rfl, rfl⟩)
theorem isLast87 (s : ByteArray) (w : World) : Calls Tryz.prog 44 #[.string s] w (fun e w' => e = .returned (.bool (enB s)) ∧ w = w') := by
  rw [enB_eq]
  obtain ⟨q0, h0⟩ : ∃ q, isW s 1 = q := ⟨_, rfl⟩
  obtain ⟨q1, h1⟩ : ∃ q, isW s 2 = q := ⟨_, rfl⟩
  rw [h0, h1]
  replace h0 : (s.toList == [98, 105, 110]) = q0 := h0
  replace h1 : (s.toList == [115, 112, 111, 117, 116]) = q1 := h1
  cases q0 <;> cases q1 <;> (go_enter Tryz.func44, Tryz.ntmps44; go_wp2_with fail; go_ret; exact ⟨rfl, rfl⟩)
set_option maxRecDepth 100000 in
set_option maxHeartbeats 1000000 in
theorem isConveyor42 (s : ByteArray) (w : World) : Calls Tryz.prog 42 #[.string s] w (fun e w' => e = .returned (.bool (cvB s)) ∧ w = w') := by
  rw [cvB_eq]
  obtain ⟨q3, h3⟩ : ∃ q, isW s 3 = q := ⟨_, rfl⟩
  obtain ⟨q4, h4⟩ : ∃ q, isW s 4 = q := ⟨_, rfl⟩
  obtain ⟨q5, h5⟩ : ∃ q, isW s 5 = q := ⟨_, rfl⟩
  obtain ⟨q6, h6⟩ : ∃ q, isW s 6 = q := ⟨_, rfl⟩
  obtain ⟨q7, h7⟩ : ∃ q, isW s 7 = q := ⟨_, rfl⟩
  rw [h3, h4, h5, h6, h7]
  replace h3 : (s.toList == [98, 101, 108, 116]) = q3 := h3
  replace h4 : (s.toList == [108, 101, 103]) = q4 := h4
  replace h5 : (s.toList == [103, 97, 116, 101]) = q5 := h5
  replace h6 : (s.toList == [100, 105, 115, 116, 114, 105, 98, 117, 116, 111, 114]) = q6 := h6
  replace h7 : (s.toList == [115, 99, 97, 108, 101]) = q7 := h7
  cases q3 <;> cases q4 <;> cases q5 <;> cases q6 <;> cases q7 <;> (go_enter Tryz.func42, Tryz.ntmps42; go_wp2_with fail; go_ret; exact ⟨by simp, rfl⟩)
end Go.Proofs.YtpafjhjpchdcdaaGreatDoor
/- Walks: machines of a plant; unknown numbers. -/
namespace Go.Proofs.YtpafjhjpchdcdaaGreatDoor
open Go Go.Proofs Go.RowKit Go.Shelf
structure Mc where
  kind : ByteArray
  time : Int
def Mc.enc (m : Mc) : List Value := [.string m.kind, .int .i64 m.time]
theorem Mc.enc_len (m : Mc) : m.enc.length = 2 := rfl
structure Ar where
  fr : Int
  to : Int
deriving DecidableEq
def Ar.enc (a : Ar) : List Value := [.int .i64 a.fr, .int .i64 a.to]
theorem Ar.enc_len (a : Ar) : a.enc.length = 2 := rfl
structure Pl where
  ms : List Mc
  arcs : List Ar
structure PlR (w : World) (B : Nat) (v1 v2 : Value) (p : Pl) : Prop where
  ms : Sl Mc.enc 2 w B v1 p.ms
  arcs : Sl Ar.enc 2 w B v2 p.arcs
theorem PlR.later {w w' : World} {v1 v2 : Value} {p : Pl} (h : PlR w w.heap.size v1 v2 p) (hb : Below w.heap.size w w') : PlR w' w'.heap.size v1 v2 p := ⟨h.ms.later hb, h.arcs.later hb⟩
def inN (n : Nat) (x : Int) : Bool := decide (0 ≤ x) && decide (x < n)
set_option maxRecDepth 100000 in
set_option maxHeartbeats 1000000 in
theorem is101 (a1 : Option Addr) (n c1 : Nat) (v2 : Value) (x : Int) (w : World) : Calls Tryz.prog 47 #[.agg #[.slice a1 n c1, v2], .int .i64 x] w (Ret (.bool (inN n x)) w) := by
  have HB := Lib.hid ((Below.refl w.heap.size w).alloc (Nat.le_refl _) (.cells #[.slice a1 n c1, v2] 25))
  unfold inN
  go_enter Tryz.func47, Tryz.ntmps47
  by_cases h0 : 0 ≤ x
  · have k0 : decide (0 ≤ x) = true := decide_eq_true h0
    rw [k0, Bool.true_and]
    go_wp2_with fail
    go_ret
    exact ⟨rfl, HB.out⟩
  · have k0 : decide (0 ≤ x) = false := decide_eq_false h0
    rw [k0, Bool.false_and]
    go_wp2_with fail
    go_ret
    exact ⟨rfl, HB.out⟩
set_option maxRecDepth 100000 in
set_option maxHeartbeats 1000000 in
theorem outN137 (a1 : Option Addr) (n c1 : Nat) (v2 : Value) (x : Int) (pb : Nat) (w : World) (hx : Box w pb 25 [.slice a1 n c1, v2]) : Calls Tryz.prog 95 (#[.int .i64 x] ++ #[.pointer (some ⟨pb, 0, none⟩)]) w (Ret (.bool (!inN n x)) w) := by
  obtain ⟨x0, x1, xf, xz⟩ := hx.v2
  clear hx
  obtain ⟨R, hR⟩ : ∃ R, inN n x = R := ⟨_, rfl⟩
  have HI := Lib.hid (is101 a1 n c1 v2 x w)
  rw [hR] at HI ⊢
  go_enter Tryz.func95, Tryz.ntmps95
  go_wp2_with fail
  refine HI.out.mono ?_
  rintro e w2 ⟨rfl, hb2⟩
  go_wp2_with fail
  go_ret
  exact ⟨rfl, hb2⟩
def PredI (g : Nat) (lb : Array Value) (w : World) (l : List Int) (p : Int → Bool) : Prop := ∀ w' x, Below w.heap.size w w' → x ∈ l → Calls Tryz.prog g (#[.int .i64 x] ++ lb) w' (Ret (.bool (p x)) w')
theorem PredI.later {g : Nat} {lb : Array Value} {w w' : World} {l : List Int} {p : Int → Bool} (h : PredI g lb w l p) (hb : Below w.heap.size w w') : PredI g lb w' l p := fun w'' x k hx => h w'' x (hb.trans (k.mono hb.size)) hx
set_option maxRecDepth 100000 in
set_option maxHeartbeats 1000000 in
theorem indexF146 (v : Value) (l : List Int) (g : Nat) (lb : Array Value) (p : Int → Bool) (w : World) (eg : ∀ args w, (callFunc g args).run Tryz.prog w = .ok (.enter g args) w) (hv : Sl encI 1 w w.heap.size v l) (hp : PredI g lb w l p) : Calls Tryz.prog 65 #[v, .func (.func g) #[] lb] w fun e w' => (∃ n : Int, e = .returned (.int .i64 n) ∧ (decide (0 ≤ n) = l.any p)) ∧ Below w.heap.size w w' := by
  obtain ⟨a, c, rfl, hlen, hA⟩ := hv
  generalize hR : l.any p = R
  have HA := Lib.hid hA
  clear hA
  have HP := Lib.hid hp
  clear hp
  go_enter Tryz.func65, Tryz.ntmps65
  go_wp2_with fail
  go_loopw [8] (fun i wr => ∃ k : Nat, k ≤ l.length ∧ i = .int .i64 k ∧ (l.drop k).any p = R ∧ Below w.heap.size w wr) (fun i _ => l.length - (intOf i).toNat)
  case atStart => exact ⟨0, by omega, rfl, by simpa using hR, Below.refl _ _⟩
  case round =>
    obtain ⟨k, hk, rfl, hrel, hbe⟩ := hrel
    have HR := Lib.hid hrel
    clear hrel
    clear hR
    by_cases hlt : k < l.length
    · obtain ⟨b, off, rfl, hbb, hcells⟩ := HA.out (by omega)
      have hd := Lib.hid (show (l.drop k).any p = (p l[k] || (l.drop (k + 1)).any p) by rw [List.drop_eq_getElem_cons hlt]; rfl)
      have c0 := ((hcells k hlt).below hbe hbb).c1
      rw [Nat.mul_one] at c0
      have hb := HP.out wr l[k] hbe (List.getElem_mem hlt)
      have hbz : b < wr.heap.size := by have := hbe.size; omega
      clear hcells HA
      generalize l[k] = x at *
      obtain ⟨y, hy⟩ : ∃ y, p x = y := ⟨_, rfl⟩
      rw [hy] at hd hb
      clear hy
      have HB := Lib.hid hb
      clear hb
      have HBE := Lib.hid hbe
      clear hbe
      cases y
      · go_wp2_with (go_at_fn g; refine HB.out.mono ?_; rintro e w' ⟨rfl, hb'⟩)
        go_roundw
        case rel => exact ⟨k + 1, by omega, by go_num, by rw [← HR.out, hd.out]; rfl, HBE.out.trans (hb'.mono HBE.out.size)⟩
        case measure => simp [intOf]; omega
      · go_wp2_with (go_at_fn g; refine HB.out.mono ?_; rintro e w' ⟨rfl, hb'⟩)
        go_ret
        refine ⟨⟨k, rfl, ?_⟩, HBE.out.trans (hb'.mono HBE.out.size)⟩
        rw [← HR.out, hd.out]; simp
    · obtain rfl : l.length = k := by omega
      go_wp2_with fail
      go_ret
      refine ⟨⟨-1, rfl, ?_⟩, hbe⟩
      rw [← HR.out]; simp
set_option maxRecDepth 100000 in
set_option maxHeartbeats 1000000 in
theorem containsF111 (v : Value) (l : List Int) (g : Nat) (lb : Array Value) (p : Int → Bool) (w : World) (eg : ∀ args w, (callFunc g args).run Tryz.prog w = .ok (.enter g args) w) (hv : Sl encI 1 w w.heap.size v l) (hp : PredI g lb w l p) : Calls Tryz.prog 39 #[v, .func (.func g) #[] lb] w (Ret (.bool (l.any p)) w) := by
  have H := Lib.hid (indexF146 v l g lb p w eg hv hp)
  generalize l.any p = R at *
  clear hv hp eg
  go_enter Tryz.func39, Tryz.ntmps39
  go_wp2_with (go_at_call 65; refine H.out.mono ?_; rintro e w' ⟨⟨n, rfl, hn⟩, hb⟩)
  go_ret
  exact ⟨by rw [← hn]; rfl, hb⟩
def unkE (n : Nat) (l : List Int) : Int := if l.any (fun x => !inN n x) then 10 else 0
set_option maxRecDepth 100000 in
set_option maxHeartbeats 1000000 in
theorem unknown79 (a1 : Option Addr) (n c1 : Nat) (v2 u : Value) (l : List Int) (w : World) (hu : Sl encI 1 w w.heap.size u l) : Calls Tryz.prog 79 #[.agg #[.slice a1 n c1, v2], u] w (Ret (.int .i64 (unkE n l)) w) := by
  have hx := Box.new w #[.slice a1 n c1, v2] 25
  have hb : Below w.heap.size w (w.alloc (.cells #[.slice a1 n c1, v2] 25)) := (Below.refl w.heap.size w).alloc (Nat.le_refl _) _
  have HC := Lib.hid (containsF111 u l 95 #[.pointer (some ⟨w.heap.size, 0, none⟩)] (fun x => !inN n x) _ (enters_of Tryz.func95 (by kernel_rfl) rfl) (hu.later hb) (fun w' x hb' _ => outN137 a1 n c1 v2 x w.heap.size w' (hx.later hb')))
  have HB := Lib.hid hb
  unfold unkE
  generalize l.any (fun x => !inN n x) = R at *
  clear hx hb hu
  go_enter Tryz.func79, Tryz.ntmps79
  cases R <;> (go_wp2_with (go_at_call 39; refine HC.out.mono ?_; rintro e w2 ⟨rfl, hb2⟩); go_ret; exact ⟨rfl, HB.out.trans (hb2.mono HB.out.size)⟩)
set_option maxRecDepth 100000 in
set_option maxHeartbeats 1000000 in
theorem unknown88 (a1 : Option Addr) (n c1 : Nat) (v2 u : Value) (l : List Int) (w : World) (hu : Sl encI 1 w w.heap.size u l) : Calls Tryz.prog 17 #[.agg #[.slice a1 n c1, v2], u] w (Ret (.int .i64 (unkE n l)) w) := by
  obtain ⟨a, c, rfl, hlen, hA⟩ := hu
  have HA := Lib.hid hA
  clear hA
  obtain ⟨R, hR⟩ : ∃ R, unkE n l = R := ⟨_, rfl⟩
  rw [hR]
  have HR0 : Hid ((if (l.drop 0).any (fun x => !inN n x) then 10 else 0) = R) := Lib.hid hR
  clear hR
  have HX := Lib.hid (Box.new w #[.slice a1 n c1, v2] 25)
  have HB := Lib.hid ((Below.refl w.heap.size w).alloc (Nat.le_refl _) (.cells #[.slice a1 n c1, v2] 25))
  go_enter Tryz.func17, Tryz.ntmps17
  go_wp2_with fail
  go_loopw [5] (fun i wr => ∃ k : Nat, k ≤ l.length ∧ i = .int .i64 k ∧ Below w.heap.size w wr ∧ Box wr w.heap.size 25 [.slice a1 n c1, v2] ∧ (if (l.drop k).any (fun x => !inN n x) then (10 : Int) else 0) = R) (fun i _ => l.length - (intOf i).toNat)
  case atStart => exact ⟨0, by omega, rfl, HB.out, HX.out, HR0.out⟩
  case round =>
    clear HR0 HX HB
    obtain ⟨k, hk, rfl, hbe, hx, hrel⟩ := hrel
    obtain ⟨x0, x1, xf, xz⟩ := hx.v2
    have HN := Lib.hid hrel
    clear hrel
    by_cases hlt : k < l.length
    · obtain ⟨b, off, rfl, hbb, hcells⟩ := HA.out (by omega)
      have hd := Lib.hid (show (l.drop k).any (fun x => !inN n x) = (!inN n l[k] || (l.drop (k + 1)).any (fun x => !inN n x)) by rw [List.drop_eq_getElem_cons hlt]; rfl)
      have c0 := ((hcells k hlt).below hbe hbb).c1
      rw [Nat.mul_one] at c0
      have hbz : b < wr.heap.size := by have := hbe.size; omega
      clear hcells HA
      generalize l[k] = y at *
      have HBE := Lib.hid hbe
      have HXE := Lib.hid hx
      clear hbe hx
      by_cases h0 : y < 0
      · have hi : inN n y = false := by unfold inN; rw [decide_eq_false (by omega)]; rfl
        have k0 : decide (y < 0) = true := decide_eq_true h0
        have HV := Lib.hid (show R = 10 by rw [← HN.out, hd.out, hi]; rfl)
        clear hi
        go_wp2_with fail
        go_quiet (fail)
        go_wp2_with fail
        go_ret
        exact ⟨by rw [HV.out]; rfl, below_drewN HBE.out _⟩
      · have k0 : decide (y < 0) = false := decide_eq_false h0
        by_cases h1 : (n : Int) ≤ y
        · have hi : inN n y = false := by unfold inN; rw [decide_eq_false (show ¬ y < (n : Int) by omega), Bool.and_false]
          have k1 : decide ((n : Int) ≤ y) = true := decide_eq_true h1
          have HV := Lib.hid (show R = 10 by rw [← HN.out, hd.out, hi]; rfl)
          clear hi
          go_wp2_with fail
          go_quiet (fail)
          go_wp2_with fail
          go_ret
          exact ⟨by rw [HV.out]; rfl, below_drewN HBE.out _⟩
        · have hi : inN n y = true := by unfold inN; rw [decide_eq_true (show 0 ≤ y by omega), decide_eq_true (show y < (n : Int) by omega)]; rfl
          have k1 : decide ((n : Int) ≤ y) = false := decide_eq_false h1
          have HV := Lib.hid (show (if (l.drop (k + 1)).any (fun x => !inN n x) then (10 : Int) else 0) = R by have := HN.out; rw [hd.out, hi] at this; exact this)
          clear hi
          go_wp2_with fail
          go_quiet (fail)
          go_wp2_with fail
          go_roundw
          case rel => exact ⟨k + 1, by omega, by go_num, below_drewN HBE.out _, HXE.out.later (below_drewN (Below.refl _ _) _), HV.out⟩
          case measure => simp [intOf]; omega
    · obtain rfl : l.length = k := by omega
      have HV := Lib.hid (show R = 0 by rw [← HN.out, List.drop_length]; rfl)
      go_wp2_with fail
      go_ret
      exact ⟨by rw [HV.out]; rfl, hbe⟩
end Go.Proofs.YtpafjhjpchdcdaaGreatDoor
/- Walks: slices.Contains; In; twice. -/
namespace Go.Proofs.YtpafjhjpchdcdaaGreatDoor
open Go Go.Proofs Go.RowKit Go.Shelf
set_option maxRecDepth 100000 in
set_option maxHeartbeats 1000000 in
theorem index138 (v : Value) (l : List Int) (x : Int) (w : World) (hv : Sl encI 1 w w.heap.size v l) : Calls Tryz.prog 88 #[v, .int .i64 x] w fun e w' => (∃ n : Int, e = .returned (.int .i64 n) ∧ (decide (0 ≤ n) = l.contains x)) ∧ w = w' := by
  obtain ⟨a, c, rfl, hlen, hA⟩ := hv
  obtain ⟨R, hR⟩ : ∃ R, l.contains x = R := ⟨_, rfl⟩
  rw [hR]
  have HA := Lib.hid hA
  clear hA
  go_enter Tryz.func88, Tryz.ntmps88
  go_wp2_with fail
  go_loop [8] (fun i => ∃ k : Nat, k ≤ l.length ∧ i = .int .i64 k ∧ (l.drop k).contains x = R) (fun i => l.length - (intOf i).toNat)
  case atStart => exact ⟨0, by omega, rfl, by simpa using hR⟩
  case round =>
    obtain ⟨k, hk, rfl, hrel⟩ := hrel
    have HR := Lib.hid hrel
    clear hrel
    clear hR
    by_cases hlt : k < l.length
    · obtain ⟨b, off, rfl, hbb, hcells⟩ := HA.out (by omega)
      have hd := Lib.hid (show (l.drop k).contains x = ((x == l[k]) || (l.drop (k + 1)).contains x) by rw [List.drop_eq_getElem_cons hlt, List.contains_cons])
      have c0 := (hcells k hlt).c1
      rw [Nat.mul_one] at c0
      clear hcells HA
      generalize l[k] = z at *
      obtain ⟨y, hy⟩ : ∃ y, (x == z) = y := ⟨_, rfl⟩
      rw [hy] at hd
      cases y
      · go_wp2_with fail
        go_round
        case rel => exact ⟨k + 1, by omega, by go_num, by rw [← HR.out, hd.out]; rfl⟩
        case measure => simp [intOf]; omega
      · go_wp2_with fail
        go_ret
        refine ⟨⟨k, rfl, ?_⟩, rfl⟩
        rw [← HR.out, hd.out]; simp
    · obtain rfl : l.length = k := by omega
      go_wp2_with fail
      go_ret
      refine ⟨⟨-1, rfl, ?_⟩, rfl⟩
      rw [← HR.out]; simp
set_option maxRecDepth 100000 in
set_option maxHeartbeats 1000000 in
theorem contains82 (v : Value) (l : List Int) (x : Int) (w : World) (hv : Sl encI 1 w w.heap.size v l) : Calls Tryz.prog 69 #[v, .int .i64 x] w fun e w' => e = .returned (.bool (l.contains x)) ∧ w = w' := by
  have H := Lib.hid (index138 v l x w hv)
  obtain ⟨R, hR⟩ : ∃ R, l.contains x = R := ⟨_, rfl⟩
  rw [hR] at H ⊢
  clear hv hR
  go_enter Tryz.func69, Tryz.ntmps69
  go_wp2_with (go_at_call 88; refine H.out.mono ?_; rintro e w' ⟨⟨n, rfl, hn⟩, rfl⟩)
  go_ret
  exact ⟨by rw [← hn]; rfl, rfl⟩
set_option maxRecDepth 100000 in
set_option maxHeartbeats 1000000 in
theorem in24 (v : Value) (l : List Int) (x : Int) (w : World) (hv : Sl encI 1 w w.heap.size v l) : Calls Tryz.prog 72 #[v, .int .i64 x] w fun e w' => e = .returned (.bool (l.contains x)) ∧ w = w' := by
  obtain ⟨a, c, rfl, hlen, hA⟩ := hv
  obtain ⟨R, hR⟩ : ∃ R, l.contains x = R := ⟨_, rfl⟩
  rw [hR]
  have HA := Lib.hid hA
  clear hA
  go_enter Tryz.func72, Tryz.ntmps72
  go_wp2_with fail
  go_loop [5] (fun i => ∃ k : Nat, k ≤ l.length ∧ i = .int .i64 k ∧ (l.drop k).contains x = R) (fun i => l.length - (intOf i).toNat)
  case atStart => exact ⟨0, by omega, rfl, by simpa using hR⟩
  case round =>
    obtain ⟨k, hk, rfl, hrel⟩ := hrel
    have HR := Lib.hid hrel
    clear hrel
    clear hR
    by_cases hlt : k < l.length
    · obtain ⟨b, off, rfl, hbb, hcells⟩ := HA.out (by omega)
      have hd := Lib.hid (show (l.drop k).contains x = ((x == l[k]) || (l.drop (k + 1)).contains x) by rw [List.drop_eq_getElem_cons hlt, List.contains_cons])
      have c0 := (hcells k hlt).c1
      rw [Nat.mul_one] at c0
      clear hcells HA
      generalize l[k] = z at *
      have hcm : (x == z) = (z == x) := by rw [Bool.beq_comm]
      rw [hcm] at hd
      clear hcm
      obtain ⟨y, hy⟩ : ∃ y, (z == x) = y := ⟨_, rfl⟩
      rw [hy] at hd
      cases y
      · go_wp2_with fail
        go_round
        case rel => exact ⟨k + 1, by omega, by go_num, by rw [← HR.out, hd.out]; rfl⟩
        case measure => simp [intOf]; omega
      · have HV := Lib.hid (show R = true by rw [← HR.out, hd.out]; rfl)
        go_wp2_with fail
        go_ret
        exact ⟨by rw [HV.out]; rfl, rfl⟩
    · obtain rfl : l.length = k := by omega
      have HV := Lib.hid (show R = false by rw [← HR.out]; simp)
      go_wp2_with fail
      go_ret
      exact ⟨by rw [HV.out]; rfl, rfl⟩
theorem Sl.take {α : Type} {f : α → List Value} {sz : Nat} {w : World} {B : Nat} {a : Option Addr} {n c : Nat} {l : List α} (h : Sl f sz w B (.slice a n c) l) (k : Nat) (hk : k ≤ l.length) : Sl f sz w B (.slice a k c) (l.take k) := by
  obtain ⟨a', c', e, hlen, hA⟩ := h
  injection e with e1 e2 e3
  subst e1 e3
  have hl : (l.take k).length = k := by simp; omega
  refine ⟨a, c, by rw [hl], by rw [hl]; omega, fun h0 => ?_⟩
  obtain ⟨b, off, e, hb, hc⟩ := hA (by omega)
  refine ⟨b, off, e, hb, fun i hi => ?_⟩
  rw [List.getElem_take]
  exact hc i (by rw [hl] at hi; omega)
def dupB : List Int → Bool
  | [] => false
  | x :: r => r.contains x || dupB r
theorem nodup_dup (l : List Int) : dupB l = false ↔ l.Nodup := by
  induction l with
  | nil => simp [dupB]
  | cons x r ih => simp only [dupB, Bool.or_eq_false_iff, ih, List.nodup_cons]; simp [List.contains_iff_mem]
theorem nodup_take (l : List Int) (k : Nat) (h : k < l.length) : (l.take (k + 1)).Nodup ↔ (l.take k).Nodup ∧ (l.take k).contains l[k] = false := by
  rw [List.take_succ_eq_append_getElem h, List.nodup_append]
  simp only [List.nodup_cons, List.not_mem_nil, not_false_eq_true, List.nodup_nil, true_and, List.mem_singleton, forall_eq]
  constructor
  · rintro ⟨h1, h2⟩
    refine ⟨h1, ?_⟩
    cases hc : (l.take k).contains l[k] with
    | false => rfl
    | true => exact absurd rfl (h2 _ (List.contains_iff_mem.1 hc))
  · rintro ⟨h1, h2⟩
    refine ⟨h1, fun a ha e => ?_⟩
    subst e
    rw [List.contains_iff_mem.2 ha] at h2
    cases h2
set_option maxRecDepth 100000 in
set_option maxHeartbeats 1000000 in
theorem twice126 (v : Value) (l : List Int) (w : World) (hv : Sl encI 1 w w.heap.size v l) : Calls Tryz.prog 49 #[v] w (Ret (.bool (dupB l)) w) := by
  have HV := Lib.hid hv
  obtain ⟨a, c, rfl, hlen, hA⟩ := hv
  obtain ⟨R, hR⟩ : ∃ R, dupB l = R := ⟨_, rfl⟩
  rw [hR]
  have HRR : Hid (R = false ↔ l.Nodup) := Lib.hid (by rw [← hR]; exact nodup_dup l)
  have HA := Lib.hid hA
  clear hA
  clear hR
  have hlen1 := hlen.1
  have hlen2 := hlen.2
  clear hlen
  go_enter Tryz.func49, Tryz.ntmps49
  go_wp2_with fail
  go_loopw [3] (fun i wr => ∃ k : Nat, k ≤ l.length ∧ i = .int .i64 k ∧ (l.take k).Nodup ∧ Below w.heap.size w wr) (fun i _ => l.length - (intOf i).toNat)
  case atStart => exact ⟨0, by omega, rfl, by simp, Below.refl _ _⟩
  case round =>
    obtain ⟨k, hk, rfl, hnd, hbe⟩ := hrel
    have HN := Lib.hid hnd
    have HBE := Lib.hid hbe
    clear hnd
    by_cases hlt : k < l.length
    · obtain ⟨b, off, rfl, hbb, hcells⟩ := HA.out (by omega)
      have HT := Lib.hid (HV.out.take k hk)
      have HNT := Lib.hid (nodup_take l k hlt)
      have HLL : Hid (¬ (l.take (k + 1)).Nodup → R = true) := Lib.hid (fun h => by
        cases hr : R with
        | true => rfl
        | false => exact absurd ((HRR.out.1 hr).sublist (List.take_sublist _ _)) h)
      have c0 := ((hcells k hlt).below hbe hbb).c1
      rw [Nat.mul_one] at c0
      have hbz : b < wr.heap.size := by have := hbe.size; omega
      have hkc : (k : Int) ≤ c := by omega
      clear hcells HA hbe
      generalize l[k] = x at *
      go_wp2_with fail
      refine wp_region_head_drew 7 (by kernel_rfl) (by kernel_rfl) ?_
      simp only [List.take_succ_cons, List.take_zero, List.drop_succ_cons, List.drop_zero]
      repeat go_big_quiet_step (fail)
      refine wpQuiet_nil ?_
      rintro _ ⟨nq, rfl⟩
      go_wp2_with fail
      refine (in24 _ (l.take k) x _ (HT.out.later (below_drewN HBE.out nq))).mono ?_
      rintro e w2 ⟨rfl, rfl⟩
      obtain ⟨q, hq⟩ : ∃ q, (l.take k).contains x = q := ⟨_, rfl⟩
      rw [hq] at HNT ⊢
      cases q with
      | true =>
        have HR1 := Lib.hid (HLL.out (fun h => by have := (HNT.out.1 h).2; cases this))
        go_wp2_with fail
        go_ret
        exact ⟨by rw [HR1.out]; rfl, below_drewN HBE.out nq⟩
      | false =>
        have HN2 := Lib.hid (HNT.out.2 ⟨HN.out, rfl⟩)
        go_wp2_with fail
        go_roundw
        case rel => exact ⟨k + 1, by omega, by go_num, HN2.out, below_drewN HBE.out nq⟩
        case measure => simp [intOf]; omega
    · obtain rfl : l.length = k := by omega
      have HR1 := Lib.hid (show R = false from HRR.out.2 (by have := HN.out; rwa [List.take_length] at this))
      go_wp2_with fail
      go_ret
      exact ⟨by rw [HR1.out]; rfl, hbe⟩
end Go.Proofs.YtpafjhjpchdcdaaGreatDoor
