/- Lemmas on the way to the law TopOneGrain (part 25): Xp -/
import Derived.Test.YtpafjhjpchdcdaaGreatDoorTopOneGrainP24
import Derived.Test.YtpafjhjpchdcdaaGreatDoorTopOneGrainP21
set_option linter.unusedVariables false
set_option linter.unusedSimpArgs false

/- Walks: the law TopOneGrain where the plant or the loads are too large. -/
namespace Go.Proofs.YtpafjhjpchdcdaaGreatDoor.Nu
open Go Go.Proofs Go.RowKit Go.Proofs.YtpafjhjpchdcdaaGreatDoor
set_option maxRecDepth 100000 in
set_option maxHeartbeats 1000000 in
theorem grain3_few (w : World) (hw : TbR w) (hwd : WdR w) (a1 a2 a3 : Option Addr) (n1 n2 n3 c1 c2 c3 : Nat) (hF : ∀ u, Below w.heap.size w u → Calls Tryz.prog 4 #[.agg #[.slice a1 n1 c1, .slice a2 n2 c2], .int .i64 8] u (Ret (.bool false) u)) :
    Calls Tryz.prog 3 #[.agg #[.slice a1 n1 c1, .slice a2 n2 c2], .slice a3 n3 c3] w (Ret (.bool true) w) := by
  have HR := Lib.hid (fun (u : World) (hb : Below w.heap.size w u) => routeRuns5 u (hw.later hb) (hwd.later hb))
  have HF := Lib.hid hF
  clear hF hw hwd
  have HB := Lib.hid ((Below.refl w.heap.size w).alloc (Nat.le_refl _) (.cells #[.slice a1 n1 c1, .slice a2 n2 c2] 25))
  have HX := Lib.hid (Box.new w #[.slice a1 n1 c1, .slice a2 n2 c2] 25)
  obtain ⟨x0, x1, xf, xz⟩ := HX.out.v2
  go_enter Tryz.func3, Tryz.ntmps3
  go_wp2_with fail
  refine (HF.out _ HB.out).mono ?_
  rintro e4 w4 ⟨rfl, hb⟩
  replace HB := Lib.hid (HB.out.trans (hb.mono HB.out.size))
  replace HX := Lib.hid (HX.out.later hb)
  clear hb x0 x1 xf xz
  obtain ⟨x0, x1, xf, xz⟩ := HX.out.v2
  go_wp2_with fail
  refine (HR.out _ HB.out).mono ?_
  rintro e5 w5 ⟨rfl, hb⟩
  replace HB := Lib.hid (HB.out.trans (hb.mono HB.out.size))
  clear hb
  go_wp2_with fail
  go_ret
  exact ⟨rfl, HB.out⟩
set_option maxRecDepth 100000 in
set_option maxHeartbeats 1000000 in
theorem grain3_large (w : World) (hw : TbR w) (hwd : WdR w) (a1 a2 a3 : Option Addr) (n1 n2 n3 c1 c2 c3 : Nat) (hF : ∀ u, Below w.heap.size w u → Calls Tryz.prog 4 #[.agg #[.slice a1 n1 c1, .slice a2 n2 c2], .int .i64 8] u (Ret (.bool true) u)) (h : 20 < n2 ∨ 8 < n3) :
    Calls Tryz.prog 3 #[.agg #[.slice a1 n1 c1, .slice a2 n2 c2], .slice a3 n3 c3] w (Ret (.bool true) w) := by
  have HR := Lib.hid (fun (u : World) (hb : Below w.heap.size w u) => routeRuns5 u (hw.later hb) (hwd.later hb))
  have HF := Lib.hid hF
  clear hF hw hwd
  have HB := Lib.hid ((Below.refl w.heap.size w).alloc (Nat.le_refl _) (.cells #[.slice a1 n1 c1, .slice a2 n2 c2] 25))
  have HX := Lib.hid (Box.new w #[.slice a1 n1 c1, .slice a2 n2 c2] 25)
  obtain ⟨x0, x1, xf, xz⟩ := HX.out.v2
  by_cases h1 : 20 < n2
  · have d1 : decide ((20 : Int) < (n2 : Int)) = true := decide_eq_true (by omega)
    have d1' : decide (20 < n2) = true := decide_eq_true h1
    clear h
    go_enter Tryz.func3, Tryz.ntmps3
    go_wp2_with fail
    refine (HF.out _ HB.out).mono ?_
    rintro e4 w4 ⟨rfl, hb⟩
    replace HB := Lib.hid (HB.out.trans (hb.mono HB.out.size))
    replace HX := Lib.hid (HX.out.later hb)
    clear hb x0 x1 xf xz
    obtain ⟨x0, x1, xf, xz⟩ := HX.out.v2
    go_wp2_with fail
    refine (HR.out _ HB.out).mono ?_
    rintro e5 w5 ⟨rfl, hb⟩
    replace HB := Lib.hid (HB.out.trans (hb.mono HB.out.size))
    clear hb
    go_wp2_with fail
    go_ret
    exact ⟨rfl, HB.out⟩
  · have h2 : 8 < n3 := h.resolve_left h1
    have d1 : decide ((20 : Int) < (n2 : Int)) = false := decide_eq_false (by omega)
    have d1' : decide (20 < n2) = false := decide_eq_false h1
    have d2 : decide ((8 : Int) < (n3 : Int)) = true := decide_eq_true (by omega)
    have d2' : decide (8 < n3) = true := decide_eq_true h2
    clear h h1 h2
    go_enter Tryz.func3, Tryz.ntmps3
    go_wp2_with fail
    refine (HF.out _ HB.out).mono ?_
    rintro e4 w4 ⟨rfl, hb⟩
    replace HB := Lib.hid (HB.out.trans (hb.mono HB.out.size))
    replace HX := Lib.hid (HX.out.later hb)
    clear hb x0 x1 xf xz
    obtain ⟨x0, x1, xf, xz⟩ := HX.out.v2
    go_wp2_with fail
    refine (HR.out _ HB.out).mono ?_
    rintro e5 w5 ⟨rfl, hb⟩
    replace HB := Lib.hid (HB.out.trans (hb.mono HB.out.size))
    clear hb
    go_wp2_with fail
    go_ret
    exact ⟨rfl, HB.out⟩
end Go.Proofs.YtpafjhjpchdcdaaGreatDoor.Nu
