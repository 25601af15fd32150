/- Lemmas on the way to the law PathMenger (part 13): Jf -/
import Derived.Test.YtahpdkkpnkhnhaaGreatDoorPathMengerP12
set_option linter.unusedVariables false
set_option linter.unusedSimpArgs false

/- Opening the arguments of a law that asks no bounds: the machines of a plant without its arcs; ends of whatever length. -/
namespace Go.Proofs.YtahpdkkpnkhnhaaGreatDoor
open Go Go.Proofs Go.RowKit Go.ChangeShapes Go.WideShapes Go.ChangeAt Go.Joins Go.Deep
section
variable {H : Type} {enc : TypeId × Value → H} {W : World}
theorem ints_all {n c : Nat} {a : Option Addr} {d : DataW H} {p : List MemPlace} (h : DataW.Trod enc Tryz.prog W 0 (fun _ => true) true 26 (.slice a n c) d p) :
    n ≤ 9223372036854775807 ∧ ∃ l, SlL encI 1 W W.heap.size (.slice a n c) l ∧ l.length = n := by
  obtain ⟨fuel, hf⟩ := h
  obtain ⟨l, h1, h2, _⟩ := sl_openL encI 1 Tryz.underlying26 (by omega) (by kernel_rfl) encI_len (0 : Int) _ int_open hf
  obtain ⟨_, _, _, h3, _⟩ := id h2
  exact ⟨by omega, l, h2, h1⟩
set_option maxRecDepth 100000 in
theorem ends_openL {r : Reach} {b0 : Nat} {v : Value} {d : DataW H} {p : List MemPlace} (hv : Value.okWide Tryz.prog W r b0 84 v) (h : DataW.Trod enc Tryz.prog W 0 (fun _ => true) true 84 v d p) :
    ∃ a n c a' n' c' l l', v = .agg #[.slice a n c, .slice a' n' c'] ∧ n ≤ 9223372036854775807 ∧ n' ≤ 9223372036854775807 ∧ (SlL encI 1 W W.heap.size (.slice a n c) l ∧ l.length = n) ∧ (SlL encI 1 W W.heap.size (.slice a' n' c') l' ∧ l'.length = n') := by
  obtain ⟨v0, v1, y0, y1, n, rfl, _, _, h0, h1⟩ := open_agg2 Tryz.underlying84 (by kernel_rfl) (by kernel_rfl) hv h
  obtain ⟨a1, n1, c1, e1⟩ := slice_form Tryz.underlying26 h0
  obtain ⟨a2, n2, c2, e2⟩ := slice_form Tryz.underlying26 h1
  cases e1
  cases e2
  obtain ⟨k1, l1, k2⟩ := ints_all ⟨_, h0⟩
  obtain ⟨k3, l2, k4⟩ := ints_all ⟨_, h1⟩
  exact ⟨a1, n1, c1, a2, n2, c2, l1, l2, rfl, k1, k3, k2, k4⟩
set_option maxRecDepth 100000 in
theorem pl_open2 {r : Reach} {b0 : Nat} {v : Value} {d : DataW H} {p : List MemPlace} (hv : Value.okWide Tryz.prog W r b0 25 v) (h : DataW.Trod enc Tryz.prog W 0 (fun _ => true) true 25 v d p) :
    ∃ a1 n1 c1 a2 n2 c2, v = .agg #[.slice a1 n1 c1, .slice a2 n2 c2] ∧ n1 ≤ 9223372036854775807 ∧ n2 ≤ 9223372036854775807 ∧
      ∃ b : Pl, (n1 ≤ 70 → Sl Mc.enc 2 W W.heap.size (.slice a1 n1 c1) b.ms ∧ b.ms.length = n1) ∧ (n2 ≤ 260 → Sl Ar.enc 2 W W.heap.size (.slice a2 n2 c2) b.arcs ∧ b.arcs.length = n2) := by
  obtain ⟨v0, v1, y0, y1, n, rfl, _, _, h0, h1⟩ := open_agg2 Tryz.underlying25 (by kernel_rfl) (by kernel_rfl) hv h
  obtain ⟨a1, n1, c1, e1⟩ := slice_form Tryz.underlying22 h0
  obtain ⟨a2, n2, c2, e2⟩ := slice_form Tryz.underlying23 h1
  cases e1
  cases e2
  obtain ⟨k1, k2⟩ := sl_open Mc.enc 2 Tryz.underlying22 (by omega) (by kernel_rfl) Mc.enc_len ⟨⟨#[]⟩, 0⟩ _ mc_open h0
  obtain ⟨k3, k4⟩ := sl_open Ar.enc 2 Tryz.underlying23 (by omega) (by kernel_rfl) Ar.enc_len ⟨0, 0⟩ _ ar_open h1
  refine ⟨a1, n1, c1, a2, n2, c2, rfl, k1, k3, ?_⟩
  have q1 : ∃ l : List Mc, n1 ≤ 70 → Sl Mc.enc 2 W W.heap.size (.slice a1 n1 c1) l ∧ l.length = n1 := by
    by_cases hb : n1 ≤ 70
    · obtain ⟨l1, f1, f2, _⟩ := k2 (by omega)
      exact ⟨l1, fun _ => ⟨f2, f1⟩⟩
    · exact ⟨[], fun x => absurd x hb⟩
  have q2 : ∃ l : List Ar, n2 ≤ 260 → Sl Ar.enc 2 W W.heap.size (.slice a2 n2 c2) l ∧ l.length = n2 := by
    by_cases hb : n2 ≤ 260
    · obtain ⟨l1, f1, f2, _⟩ := k4 (by omega)
      exact ⟨l1, fun _ => ⟨f2, f1⟩⟩
    · exact ⟨[], fun x => absurd x hb⟩
  obtain ⟨l1, q1⟩ := q1
  obtain ⟨l2, q2⟩ := q2
  exact ⟨⟨l1, l2⟩, q1, q2⟩
end
end Go.Proofs.YtahpdkkpnkhnhaaGreatDoor
