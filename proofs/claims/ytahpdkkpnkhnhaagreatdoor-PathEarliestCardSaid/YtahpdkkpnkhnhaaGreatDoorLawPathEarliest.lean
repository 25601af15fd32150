/- The law PathEarliest returns true for every input, and leaves its arguments as they were; the card, tied to the text of the program. No conditions but the laid table. -/
import Derived.Test.YtahpdkkpnkhnhaaGreatDoorPathEarliestP08
import Derived.Test.YtahpdkkpnkhnhaaGreatDoorCards
import Derived.Test.YtahpdkkpnkhnhaaGreatDoorTie
import Derived.SevenTiedAt
set_option linter.unusedVariables false
set_option linter.unusedSimpArgs false

namespace Go.Proofs.YtahpdkkpnkhnhaaGreatDoor
open Go Go.Proofs Go.RowKit Go.ChangeShapes Go.WideShapes Go.ChangeAt Go.Joins Go.Deep

set_option maxRecDepth 100000 in
theorem pathEarliest_contract (H : Type) (enc : TypeId × Value → H) (W : World) (base : Nat) (args : Array Value) (ds gs : List (DataW H)) (before : List MemPlace)
    (hval : ∀ (j : Nat) t v, Tryz.f14.params[j]? = some t → args[j]? = some v → Value.okWide Tryz.prog W .any base t v)
    (hW : DataW.Whole enc Tryz.prog Tryz.f14.params.toList Rows.pathEarliestSpec.vars false W args.toList ds gs before) (HWD : WdR W) :
    Calls Tryz.prog 14 args W fun e W' => ∃ v, e = .returned v ∧ Rows.pathEarliestSpec.post enc Tryz.prog Tryz.f14 false true false false W args v W' := by
  have hW' := hW
  obtain ⟨p, q, hA0, hV, rfl, hfz, hnd⟩ := hW
  have hA : DataW.TrodAll enc Tryz.prog W 0 (fun _ => true) true Tryz.f14.params.toList args.toList ds p := hA0
  rw [Tryz.params14] at hA hval
  obtain ⟨v0, v1, d0, d1, p0, p1, rfl, rfl, rfl, h0, h1⟩ := trodAll_two hA
  obtain ⟨a0, n0, c0, e0, m0, k0, rfl, hn0, hm0, b0, hp0⟩ := pl_open (hval 0 25 v0 rfl rfl) h0
  obtain ⟨a1, n1, c1, rfl⟩ := okWide_slice Tryz.underlying73 (hval 1 73 v1 rfl rfl)
  obtain ⟨hn1, l1, hl1⟩ := tasks_open h1
  have key : Calls Tryz.prog 14 #[.agg #[.slice a0 n0 c0, .slice e0 m0 k0], .slice a1 n1 c1] W (Ret (.bool true) W) := by
    exact earliest14 W a0 e0 a1 n0 m0 n1 c0 k0 c1 b0 l1 HWD hn0 hm0 hn1 hp0 hl1
  refine key.mono fun e W' ⟨he, hb⟩ => ⟨_, he, ?_⟩
  exact law_post rfl rfl rfl (by rw [Tryz.params14]; decide) hW' rfl rfl rfl hb

set_option maxRecDepth 100000 in
theorem pathEarliest_lifted (os : Os) (started : os.Started) (H : Type) (enc : TypeId × Value → H) :
    ReturnsInHanded {} Tryz.checked os 14 .any (fun w args => (Rows.pathEarliestSpec.pre enc Tryz.prog Tryz.f14 [] false w args ∧ laidMetH Tryz.prog laidP w) ∧ sizedMet enc Tryz.prog Tryz.f14 (OpenSpec.ofChange Rows.pathEarliestSpec) false w args)
      (Rows.pathEarliestSpec.post enc Tryz.prog Tryz.f14 false true false false) := by
  refine returnsInHanded_of_change_and (C := Tryz.checked) (X := fun w _ => laidMetH Tryz.prog laidP w) (fun _ _ _ hh h => h.of_heap hh) Tryz.own started (by kernel_rfl) Tryz.func14
    (ChangeSpec.witness_shaped (enc := enc) (C := Tryz.checked) (os := os) (X := fun w _ => laidMetH Tryz.prog laidP w) false (World.doorLaid Tryz.prog 400 os) #[.agg #[.slice none 0 0, .slice none 0 0], .slice none 0 0] 8 rfl (World.shaped_of_RefB (by kernel_rfl) (by kernel_rfl)) (by kernel_rfl) (by kernel_rfl) (by kernel_rfl) (door_met os _)) ?_
  intro W base args ds gs before hval hW _ _ hL _
  exact pathEarliest_contract H enc W base args ds gs before hval hW (words_of_laid hL)

theorem pathEarliest_row : Rows.PathEarliestSaid :=
  OpenClaim.holds_of_wide 14 Tryz.f14 rfl rfl rfl rfl rfl rfl rfl ⟨rfl, rfl, rfl, rfl, rfl⟩ rfl rfl rfl rfl rfl (by kernel_rfl) Tryz.func14 (by kernel_rfl)
    (of_decide_eq_true (by kernel_rfl)) (by unfold Func.isWrapper; first | (rw [if_pos (by decide +kernel)]; kernel_rfl) | (rw [if_neg (by decide +kernel)]; exact ⟨rfl, rfl⟩))
    (fun os started H enc _ => pathEarliest_lifted os started H enc)
set_option maxRecDepth 100000 in
theorem pathEarliest_holds : Rows.PathEarliestCardSaid :=
  Claim7.holds_tied_plain_at .later [] [.widerDeep] true (true, "ac00eac5f5683b08c0d279b686f308d95ee1a0f048c2ebbbd23f484f4232b770") false
    pathEarliest_row (fun _ h => by cases h) (by kernel_rfl) (fun _ h => by cases h) pathEarliest_row_tie rfl ⟨rfl, rfl⟩ (by kernel_rfl) rfl
    (fun f fn hf hfn => by
      obtain rfl : f = 14 := Option.some.inj ((show Tryz.prog.funcNamed "bushel/bushellaw05.PathEarliest" = some 14 by kernel_rfl).symm.trans hf) |>.symm
      obtain rfl : fn = Tryz.f14 := (Option.some.inj (Tryz.func14.symm.trans hfn)).symm
      exact ⟨by kernel_rfl, fun j t ht => by
        rw [Tryz.params14] at ht
        have hm : t ∈ [25, 73] := by simpa using Array.mem_of_getElem? ht
        have hall : ([25, 73].all fun u => !Tryz.prog.wantsStandIn u) = true := by kernel_rfl
        exact (show Tryz.prog.wantsStandIn t = false by simpa using List.all_eq_true.1 hall t hm)⟩)
    (by kernel_rfl)
end Go.Proofs.YtahpdkkpnkhnhaaGreatDoor
