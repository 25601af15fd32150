/- Lemmas on the way to the law PathNeverMeets (part 10): Jc Je -/
import Derived.Test.YtahpdkkpnkhnhaaGreatDoorLib29
import Derived.Test.YtahpdkkpnkhnhaaGreatDoorPathNeverMeetsP03
import Derived.Test.YtahpdkkpnkhnhaaGreatDoorPathNeverMeetsP06
set_option linter.unusedVariables false
set_option linter.unusedSimpArgs false

/- Opening the arguments: a trip; sources and sinks. -/
namespace Go.Proofs.YtahpdkkpnkhnhaaGreatDoor
open Go Go.Proofs Go.RowKit Go.ChangeShapes Go.WideShapes Go.ChangeAt Go.Joins Go.Deep
section
variable {H : Type} {enc : TypeId × Value → H} {W : World}
theorem ints_le {n c : Nat} {a : Option Addr} {d : DataW H} {p : List MemPlace} (h : DataW.Trod enc Tryz.prog W 0 (fun _ => true) true 26 (.slice a n c) d p) :
    n ≤ 9223372036854775807 ∧ ∃ l, n ≤ 80 → Sl encI 1 W W.heap.size (.slice a n c) l := by
  obtain ⟨fuel, hf⟩ := h
  obtain ⟨k1, k2⟩ := sl_ints hf
  refine ⟨k1, ?_⟩
  by_cases h8 : n ≤ 80
  · obtain ⟨l, _, h2, _⟩ := k2 (by omega)
    exact ⟨l, fun _ => h2⟩
  · exact ⟨[], fun h => absurd h h8⟩
end
end Go.Proofs.YtahpdkkpnkhnhaaGreatDoor

/- Opening the arguments: commands. -/
namespace Go.Proofs.YtahpdkkpnkhnhaaGreatDoor
open Go Go.Proofs Go.RowKit Go.ChangeShapes Go.WideShapes Go.ChangeAt Go.Joins Go.Deep
section
variable {H : Type} {enc : TypeId × Value → H} {W : World}
set_option maxRecDepth 100000 in
theorem cm_open {fuel : Nat} {cs : List Value} {x : DataW H × List MemPlace} (h : DataW.trod enc Tryz.prog W 0 (fun _ => true) true fuel 97 cs = some x) : ∃ t : CmV, cs = CmV.enc t ∧ CmF W W.heap.size t := by
  obtain ⟨xs, n, _, _, hl, hx, hf⟩ := DataW.trod_struct Tryz.underlying97 h
  rw [show Tryz.prog.cellsOf 97 = 3 from by kernel_rfl] at hl
  match cs, hl with
  | [c0, c1, c2], _ =>
    have f0 : DataW.trod enc Tryz.prog W 0 (fun _ => true) true n 5 (([c0, c1, c2].drop 0).take (Tryz.prog.cellsOf 5)) = xs[0]? := hf 0 _ rfl
    have f1 : DataW.trod enc Tryz.prog W 0 (fun _ => true) true n 26 (([c0, c1, c2].drop 1).take (Tryz.prog.cellsOf 26)) = xs[1]? := hf 1 _ rfl
    have f2 : DataW.trod enc Tryz.prog W 0 (fun _ => true) true n 9 (([c0, c1, c2].drop 2).take (Tryz.prog.cellsOf 9)) = xs[2]? := hf 2 _ rfl
    have hx2 : xs.length = 3 := hx
    rw [List.getElem?_eq_getElem (show 0 < xs.length by omega), show Tryz.prog.cellsOf 5 = 1 from by kernel_rfl] at f0
    rw [List.getElem?_eq_getElem (show 1 < xs.length by omega), show Tryz.prog.cellsOf 26 = 1 from by kernel_rfl] at f1
    rw [List.getElem?_eq_getElem (show 2 < xs.length by omega), show Tryz.prog.cellsOf 9 = 1 from by kernel_rfl] at f2
    have f1 : DataW.trod enc Tryz.prog W 0 (fun _ => true) true n 26 [c1] = some xs[1] := f1
    obtain ⟨a1, n1, c1', e1⟩ := slice_form Tryz.underlying26 f1
    obtain ⟨s, e2, _, hs⟩ := DataW.trod_string Tryz.underlying9 f2
    obtain ⟨r, e0, _, w0⟩ := DataW.trod_int Tryz.underlying5 f0
    simp at e0 e1 e2
    subst e0 e1 e2
    obtain ⟨k1, l, k2⟩ := ints_le ⟨_, f1⟩
    have hr : 0 ≤ r ∧ r ≤ 255 := by
      have h1 : (decide (IntKind.min .u8 ≤ r) && decide (r ≤ IntKind.max .u8)) = true := w0
      rw [Bool.and_eq_true, decide_eq_true_eq, decide_eq_true_eq] at h1
      exact h1
    obtain ⟨kd, rfl⟩ : ∃ kd : Nat, r = (kd : Int) := ⟨r.toNat, by omega⟩
    exact ⟨⟨kd, a1, n1, c1', s, l⟩, rfl, (by show kd < 256; omega), k1, hs, k2⟩
/-- Commands by value. -/
theorem cmds_open {n c : Nat} {a : Option Addr} {d : DataW H} {p : List MemPlace} (h : DataW.Trod enc Tryz.prog W 0 (fun _ => true) true 94 (.slice a n c) d p) :
    n ≤ 9223372036854775807 ∧ ∃ l, CvR W W.heap.size (.slice a n c) n l := by
  obtain ⟨fuel, hf⟩ := h
  obtain ⟨k1, k2⟩ := sl_open CmV.enc 3 Tryz.underlying94 (by omega) (by kernel_rfl) CmV.enc_len cv0 (CmF W W.heap.size) cm_open hf
  refine ⟨k1, ?_⟩
  by_cases h8 : n ≤ 12
  · obtain ⟨l, h1, h2, h3⟩ := k2 (by omega)
    exact ⟨l, fun _ => ⟨h2, h1, h3⟩⟩
  · exact ⟨[], fun h => absurd h h8⟩
end
end Go.Proofs.YtahpdkkpnkhnhaaGreatDoor
