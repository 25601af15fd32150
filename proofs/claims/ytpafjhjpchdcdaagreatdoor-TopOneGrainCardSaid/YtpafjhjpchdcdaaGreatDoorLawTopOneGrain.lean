/- The law TopOneGrain returns true for every input, and leaves its arguments as they were; the card, tied to the text of the program. No conditions but the laid tables. -/
import Derived.Test.YtpafjhjpchdcdaaGreatDoorTopOneGrainP26
import Derived.Test.YtpafjhjpchdcdaaGreatDoorCards
import Derived.Test.YtpafjhjpchdcdaaGreatDoorTie
import Derived.SevenTiedAt
set_option linter.unusedVariables false
set_option linter.unusedSimpArgs false

namespace Go.Proofs.YtpafjhjpchdcdaaGreatDoor
open Go Go.Proofs Go.RowKit Go.ChangeShapes Go.WideShapes Go.ChangeAt Go.Joins Go.Deep Go.Proofs.YtpafjhjpchdcdaaGreatDoor.Nu

theorem params3 : Tryz.f3.params = #[25, 26] := by kernel_rfl
theorem u26Top : Tryz.prog.underlying 26 = some (.slice 39) := by kernel_rfl
set_option maxRecDepth 100000 in
theorem topOneGrain_contract (H : Type) (enc : TypeId × Value → H) (W : World) (base : Nat) (args : Array Value) (ds gs : List (DataW H)) (before : List MemPlace)
    (hval : ∀ (j : Nat) t v, Tryz.f3.params[j]? = some t → args[j]? = some v → Value.okWide Tryz.prog W .any base t v)
    (hW : DataW.Whole enc Tryz.prog Tryz.f3.params.toList Rows.topOneGrainSpec.vars false W args.toList ds gs before) (HWT : TbR W) (HWD : WdR W) :
    Calls Tryz.prog 3 args W fun e W' => ∃ v, e = .returned v ∧ Rows.topOneGrainSpec.post enc Tryz.prog Tryz.f3 false true false false W args v W' := by
  have hW' := hW
  obtain ⟨p, q, hA0, hV, rfl, hfz, hnd⟩ := hW
  have hA : DataW.TrodAll enc Tryz.prog W 0 (fun _ => true) true Tryz.f3.params.toList args.toList ds p := hA0
  rw [params3] at hA hval
  obtain ⟨v0, v1, d0, d1, p0, p1, rfl, rfl, rfl, h0, h1⟩ := trodAll_two hA
  obtain ⟨a1, n1, c1, a2, n2, c2, rfl, k1, k2, b, hb1, hb2⟩ := pl_open2 (hval 0 25 v0 rfl rfl) h0
  obtain ⟨a3, n3, c3, rfl⟩ := okWide_slice u26Top (hval 1 26 v1 rfl rfl)
  obtain ⟨k3, hls⟩ := loads_open h1
  have key : Calls Tryz.prog 3 #[.agg #[.slice a1 n1 c1, .slice a2 n2 c2], .slice a3 n3 c3] W (Ret (.bool true) W) := by
    by_cases hn1 : 8 < n1
    · exact grain3_few W HWT HWD a1 a2 a3 n1 n2 n3 c1 c2 c3 fun u _ => few67_no u a1 n1 c1 _ 8 (by omega) k1
    · obtain ⟨hs1, hl1⟩ := hb1 (by omega)
      by_cases hn2 : 256 < n2
      · exact grain3_few W HWT HWD a1 a2 a3 n1 n2 n3 c1 c2 c3 fun u hbe => few67_many u _ a2 n2 c2 b 8 (hs1.later hbe) hn2 k2 (by omega)
      · obtain ⟨hs2, hl2⟩ := hb2 (by omega)
        have hp : PlR W W.heap.size (.slice a1 n1 c1) (.slice a2 n2 c2) b := ⟨hs1, hs2⟩
        cases hf : fewB b 8 with
        | false =>
          exact grain3_few W HWT HWD a1 a2 a3 n1 n2 n3 c1 c2 c3 fun u hbe => by
            have h := few67 u (.slice a1 n1 c1) (.slice a2 n2 c2) b 8 (hp.later hbe)
            rwa [hf] at h
        | true =>
          by_cases hbig : 20 < n2 ∨ 8 < n3
          · exact grain3_large W HWT HWD a1 a2 a3 n1 n2 n3 c1 c2 c3 (fun u hbe => by
              have h := few67 u (.slice a1 n1 c1) (.slice a2 n2 c2) b 8 (hp.later hbe)
              rwa [hf] at h) hbig
          · obtain ⟨l, hl3, hsl, hrl⟩ := hls (by omega)
            exact grain3_main W HWT HWD a1 a2 a3 n1 n2 n3 c1 c2 c3 b l hp hf (by omega) (by omega) hsl hrl
  refine key.mono fun e W' ⟨he, hb⟩ => ⟨_, he, ?_⟩
  exact law_post rfl rfl rfl (by rw [params3]; decide) hW' rfl rfl rfl hb

set_option maxRecDepth 100000 in
theorem topOneGrain_lifted (os : Os) (started : os.Started) (H : Type) (enc : TypeId × Value → H) :
    ReturnsInHanded {} Tryz.checked os 3 .any (fun w args => (Rows.topOneGrainSpec.pre enc Tryz.prog Tryz.f3 [] false w args ∧ laidMetH Tryz.prog laidT w) ∧ sizedMet enc Tryz.prog Tryz.f3 (OpenSpec.ofChange Rows.topOneGrainSpec) false w args)
      (Rows.topOneGrainSpec.post enc Tryz.prog Tryz.f3 false true false false) := by
  refine returns_and (C := Tryz.checked) (X := fun w _ => laidMetH Tryz.prog laidT w) (fun _ _ _ hh h => h.of_heap hh) ownTop started (by kernel_rfl) Tryz.func3
    (ChangeSpec.witness_shaped (enc := enc) (C := Tryz.checked) (os := os) (X := fun w _ => laidMetH Tryz.prog laidT w) false (World.laidAll Tryz.prog os laidT) #[.agg #[.slice none 0 0, .slice none 0 0], .slice none 0 0] 8 (World.laidAll_os _ _ _) (door_shaped os _) (by kernel_rfl) (by kernel_rfl) (by kernel_rfl) (door_met os _)) ?_
  intro W base args ds gs before hval hW hL hS
  exact topOneGrain_contract H enc W base args ds gs before hval hW (tabs_of_laid hL hS) (words_of_laid hL)

theorem topOneGrain_row : Rows.TopOneGrainSaid :=
  OpenClaim.holds_of_wide 3 Tryz.f3 rfl rfl rfl rfl rfl rfl rfl ⟨rfl, rfl, rfl, rfl, rfl⟩ rfl rfl rfl rfl rfl (by kernel_rfl) Tryz.func3 (by kernel_rfl)
    (of_decide_eq_true (by kernel_rfl)) (by unfold Func.isWrapper; first | (rw [if_pos (by decide +kernel)]; kernel_rfl) | (rw [if_neg (by decide +kernel)]; exact ⟨rfl, rfl⟩))
    (fun os started H enc _ => topOneGrain_lifted os started H enc)
set_option maxRecDepth 100000 in
theorem topOneGrain_holds : Rows.TopOneGrainCardSaid :=
  Claim7.holds_tied_plain_at .later [] [.data, .data, .data, .data, .sentinel, .sentinel, .widerDeep, .pinned] true (true, "c0fd59e634234332bac18c3ecb4ff05003642a2ce19417b705a47b03488c66b3") true
    topOneGrain_row (fun _ h => by cases h) (by kernel_rfl) (fun _ h => by cases h) topOneGrain_row_tie rfl ⟨rfl, rfl⟩ (by kernel_rfl) rfl
    (fun f fn hf hfn => by
      obtain rfl : f = 3 := Option.some.inj ((show Tryz.prog.funcNamed "bushel/busheltop.TopOneGrain" = some 3 by kernel_rfl).symm.trans hf) |>.symm
      obtain rfl : fn = Tryz.f3 := (Option.some.inj (Tryz.func3.symm.trans hfn)).symm
      exact ⟨by kernel_rfl, fun j t ht => by
        rw [params3] at ht
        have hm : t ∈ [25, 26] := by simpa using Array.mem_of_getElem? ht
        have hall : ([25, 26].all fun u => !Tryz.prog.wantsStandIn u) = true := by kernel_rfl
        exact (show Tryz.prog.wantsStandIn t = false by simpa using List.all_eq_true.1 hall t hm)⟩)
    (by kernel_rfl)
end Go.Proofs.YtpafjhjpchdcdaaGreatDoor
