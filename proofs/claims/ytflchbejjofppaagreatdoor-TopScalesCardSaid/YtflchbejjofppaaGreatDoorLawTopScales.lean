/- The law TopScales returns true for every input, and leaves its arguments as they were; the card, tied to the text of the program. No conditions but the laid tables. -/
import Derived.Test.YtflchbejjofppaaGreatDoorTopScalesP26
import Derived.Test.YtflchbejjofppaaGreatDoorTopScalesP27
import Derived.Test.YtflchbejjofppaaGreatDoorCards
import Derived.Test.YtflchbejjofppaaGreatDoorTie
import Derived.SevenTiedAt
set_option linter.unusedVariables false
set_option linter.unusedSimpArgs false

namespace Go.Proofs.YtflchbejjofppaaGreatDoor
open Go Go.Proofs Go.RowKit Go.ChangeShapes Go.WideShapes Go.ChangeAt Go.Joins Go.Deep Go.Proofs.YtflchbejjofppaaGreatDoor.Nu

theorem params4 : Tryz.f4.params = #[22, 34, 34] := by kernel_rfl
set_option maxRecDepth 100000 in
theorem topScales_contract (H : Type) (enc : TypeId × Value → H) (W : World) (base : Nat) (args : Array Value) (ds gs : List (DataW H)) (before : List MemPlace)
    (hval : ∀ (j : Nat) t v, Tryz.f4.params[j]? = some t → args[j]? = some v → Value.okWide Tryz.prog W .any base t v)
    (hW : DataW.Whole enc Tryz.prog Tryz.f4.params.toList Rows.topScalesSpec.vars false W args.toList ds gs before) (HWD : TbR W) :
    Calls Tryz.prog 4 args W fun e W' => ∃ v, e = .returned v ∧ Rows.topScalesSpec.post enc Tryz.prog Tryz.f4 false true false false W args v W' := by
  have hW' := hW
  obtain ⟨p, q, hA0, hV, rfl, hfz, hnd⟩ := hW
  have hA : DataW.TrodAll enc Tryz.prog W 0 (fun _ => true) true Tryz.f4.params.toList args.toList ds p := hA0
  rw [params4] at hA hval
  obtain ⟨v0, v1, v2, d0, d1, d2, p0, p1, p2, rfl, rfl, rfl, h0, h1, h2⟩ := trodAll_three hA
  obtain ⟨a0, n, c, rfl⟩ := okWide_slice u22Top (hval 0 22 v0 rfl rfl)
  obtain ⟨g, rfl⟩ := rg_open (hval 1 34 v1 rfl rfl) h1
  obtain ⟨t, rfl⟩ := rg_open (hval 2 34 v2 rfl rfl) h2
  obtain ⟨hn, hl⟩ := sl_ranges h0
  have key : Calls Tryz.prog 4 #[.slice a0 n c, .agg #[.int .i64 g.lo, .int .i64 g.hi], .agg #[.int .i64 t.lo, .int .i64 t.hi]] W (Ret (.bool true) W) := by
    by_cases h8 : n ≤ 8
    · obtain ⟨l, hll, hs, _⟩ := hl (by omega)
      exact scales4 W HWD a0 n c l g t hn (fun _ => ⟨hll, hs⟩)
    · exact scales4 W HWD a0 n c [] g t hn (fun h => absurd h h8)
  refine key.mono fun e W' ⟨he, hb⟩ => ⟨_, he, ?_⟩
  exact law_post rfl rfl rfl (by rw [params4]; decide) hW' rfl rfl rfl hb

set_option maxRecDepth 100000 in
theorem topScales_lifted (os : Os) (started : os.Started) (H : Type) (enc : TypeId × Value → H) :
    ReturnsInHanded {} Tryz.checked os 4 .any (fun w args => (Rows.topScalesSpec.pre enc Tryz.prog Tryz.f4 [] false w args ∧ laidMetH Tryz.prog laidT w) ∧ sizedMet enc Tryz.prog Tryz.f4 (OpenSpec.ofChange Rows.topScalesSpec) false w args)
      (Rows.topScalesSpec.post enc Tryz.prog Tryz.f4 false true false false) := by
  refine returns_and (C := Tryz.checked) (X := fun w _ => laidMetH Tryz.prog laidT w) (fun _ _ _ hh h => h.of_heap hh) ownTop started (by kernel_rfl) Tryz.func4
    (ChangeSpec.witness_shaped (enc := enc) (C := Tryz.checked) (os := os) (X := fun w _ => laidMetH Tryz.prog laidT w) false (World.laidAll Tryz.prog os laidT) #[.slice none 0 0, .agg #[.int .i64 0, .int .i64 0], .agg #[.int .i64 0, .int .i64 0]] 8 (World.laidAll_os _ _ _) (door_shaped os _) (by kernel_rfl) (by kernel_rfl) (by kernel_rfl) (door_met os _)) ?_
  intro W base args ds gs before hval hW hL hS
  exact topScales_contract H enc W base args ds gs before hval hW (tabs_of_laid hL hS)

theorem topScales_row : Rows.TopScalesSaid :=
  OpenClaim.holds_of_wide 4 Tryz.f4 rfl rfl rfl rfl rfl rfl rfl ⟨rfl, rfl, rfl, rfl, rfl⟩ rfl rfl rfl rfl rfl (by kernel_rfl) Tryz.func4 (by kernel_rfl)
    (of_decide_eq_true (by kernel_rfl)) (by unfold Func.isWrapper; first | (rw [if_pos (by decide +kernel)]; kernel_rfl) | (rw [if_neg (by decide +kernel)]; exact ⟨rfl, rfl⟩))
    (fun os started H enc _ => topScales_lifted os started H enc)
set_option maxRecDepth 100000 in
theorem topScales_holds : Rows.TopScalesCardSaid :=
  Claim7.holds_tied_plain_at .later [] [.data, .data, .data, .data, .sentinel, .sentinel, .pinned] true (true, "8e7e3764f6950079f5466dcf6b3cec18a754da7a5f53394dbf1cb53333002038") true
    topScales_row (fun _ h => by cases h) (by kernel_rfl) (fun _ h => by cases h) topScales_row_tie rfl ⟨rfl, rfl⟩ (by kernel_rfl) rfl
    (fun f fn hf hfn => by
      obtain rfl : f = 4 := Option.some.inj ((show Tryz.prog.funcNamed "bushel/busheltop.TopScales" = some 4 by kernel_rfl).symm.trans hf) |>.symm
      obtain rfl : fn = Tryz.f4 := (Option.some.inj (Tryz.func4.symm.trans hfn)).symm
      exact ⟨by kernel_rfl, fun j t ht => by
        rw [params4] at ht
        have hm : t ∈ [22, 34, 34] := by simpa using Array.mem_of_getElem? ht
        have hall : ([22, 34, 34].all fun u => !Tryz.prog.wantsStandIn u) = true := by kernel_rfl
        exact (show Tryz.prog.wantsStandIn t = false by simpa using List.all_eq_true.1 hall t hm)⟩)
    (by kernel_rfl)
end Go.Proofs.YtflchbejjofppaaGreatDoor
