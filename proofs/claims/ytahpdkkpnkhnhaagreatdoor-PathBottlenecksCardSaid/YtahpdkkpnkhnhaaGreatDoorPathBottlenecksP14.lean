/- Lemmas on the way to the law PathBottlenecks (part 14): Jc -/
import Derived.Test.YtahpdkkpnkhnhaaGreatDoorBA29
import Derived.Test.YtahpdkkpnkhnhaaGreatDoorPathBottlenecksP02
set_option linter.unusedVariables false
set_option linter.unusedSimpArgs false

/- Opening the arguments: a trip; sources and sinks. -/
namespace Go.Proofs.YtahpdkkpnkhnhaaGreatDoor
open Go Go.Proofs Go.RowKit Go.ChangeShapes Go.WideShapes Go.ChangeAt Go.Joins Go.Deep
section
variable {H : Type} {enc : TypeId × Value → H} {W : World}
theorem ints_le {n c : Nat} {a : Option Addr} {d : DataW H} {p : List MemPlace} (h : DataW.Trod enc Tryz.prog W 0 (fun _ => true) true 26 (.slice a n c) d p) :
    n ≤ 9223372036854775807 ∧ ∃ l, n ≤ 80 → Sl encI 1 W W.heap.size (.slice a n c) l := by
  obtain ⟨fuel, hf⟩ := h
  obtain ⟨k1, k2⟩ := sl_ints hf
  refine ⟨k1, ?_⟩
  by_cases h8 : n ≤ 80
  · obtain ⟨l, _, h2, _⟩ := k2 (by omega)
    exact ⟨l, fun _ => h2⟩
  · exact ⟨[], fun h => absurd h h8⟩
set_option maxRecDepth 100000 in
theorem ends_open {r : Reach} {b0 : Nat} {v : Value} {d : DataW H} {p : List MemPlace} (hv : Value.okWide Tryz.prog W r b0 84 v) (h : DataW.Trod enc Tryz.prog W 0 (fun _ => true) true 84 v d p) :
    ∃ a n c a' n' c', v = .agg #[.slice a n c, .slice a' n' c'] ∧ n ≤ 9223372036854775807 ∧ n' ≤ 9223372036854775807 ∧ (∃ l, n ≤ 80 → Sl encI 1 W W.heap.size (.slice a n c) l) ∧ ∃ l, n' ≤ 80 → Sl encI 1 W W.heap.size (.slice a' n' c') l := by
  obtain ⟨v0, v1, y0, y1, n, rfl, _, _, h0, h1⟩ := open_agg2 Tryz.underlying84 (by kernel_rfl) (by kernel_rfl) hv h
  obtain ⟨a1, n1, c1, e1⟩ := slice_form Tryz.underlying26 h0
  obtain ⟨a2, n2, c2, e2⟩ := slice_form Tryz.underlying26 h1
  cases e1
  cases e2
  obtain ⟨k1, k2⟩ := ints_le ⟨_, h0⟩
  obtain ⟨k3, k4⟩ := ints_le ⟨_, h1⟩
  exact ⟨a1, n1, c1, a2, n2, c2, rfl, k1, k3, k2, k4⟩
end
end Go.Proofs.YtahpdkkpnkhnhaaGreatDoor
