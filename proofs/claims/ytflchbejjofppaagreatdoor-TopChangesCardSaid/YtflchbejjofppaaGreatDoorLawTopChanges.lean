/- The law TopChanges returns true for every input, and leaves its arguments as they were; the card, tied to the text of the program. No conditions but the laid tables. -/
import Derived.Test.YtflchbejjofppaaGreatDoorTopChangesP33
import Derived.Test.YtflchbejjofppaaGreatDoorTopChangesP34
import Derived.Test.YtflchbejjofppaaGreatDoorCards
import Derived.Test.YtflchbejjofppaaGreatDoorTie
import Derived.SevenTiedAt
set_option linter.unusedVariables false
set_option linter.unusedSimpArgs false

namespace Go.Proofs.YtflchbejjofppaaGreatDoor
open Go Go.Proofs Go.RowKit Go.ChangeShapes Go.WideShapes Go.ChangeAt Go.Joins Go.Deep Go.Proofs.YtflchbejjofppaaGreatDoor.Nu

theorem params3 : Tryz.f3.params = #[25, 26] := by kernel_rfl
theorem u26Top : Tryz.prog.underlying 26 = some (.slice 3) := by kernel_rfl
set_option maxRecDepth 100000 in
theorem topChanges_contract (H : Type) (enc : TypeId × Value → H) (W : World) (base : Nat) (args : Array Value) (ds gs : List (DataW H)) (before : List MemPlace)
    (hval : ∀ (j : Nat) t v, Tryz.f3.params[j]? = some t → args[j]? = some v → Value.okWide Tryz.prog W .any base t v)
    (hW : DataW.Whole enc Tryz.prog Tryz.f3.params.toList Rows.topChangesSpec.vars false W args.toList ds gs before) (HWD : TbR W) :
    Calls Tryz.prog 3 args W fun e W' => ∃ v, e = .returned v ∧ Rows.topChangesSpec.post enc Tryz.prog Tryz.f3 false true false false W args v W' := by
  have hW' := hW
  obtain ⟨p, q, hA0, hV, rfl, hfz, hnd⟩ := hW
  have hA : DataW.TrodAll enc Tryz.prog W 0 (fun _ => true) true Tryz.f3.params.toList args.toList ds p := hA0
  rw [params3] at hA hval
  obtain ⟨v0, v1, d0, d1, p0, p1, rfl, rfl, rfl, h0, h1⟩ := trodAll_two hA
  obtain ⟨a1, n1, c1, a2, n2, c2, rfl, k1, k2, hbk⟩ := bk_open (hval 0 25 v0 rfl rfl) h0
  obtain ⟨a3, n3, c3, rfl⟩ := okWide_slice u26Top (hval 1 26 v1 rfl rfl)
  obtain ⟨k3, ps, hpl, hps, _⟩ := sl_ints_long h1
  have key : Calls Tryz.prog 3 #[.agg #[.slice a1 n1 c1, .slice a2 n2 c2], .slice a3 n3 c3] W (Ret (.bool true) W) := by
    by_cases hbig : 6 < n1 ∨ 8 < n2
    · exact changes3_big W HWD a1 a2 a3 n1 n2 n3 c1 c2 c3 k1 k2 hbig
    · obtain ⟨b, hl1, hl2, hbr, _, _⟩ := hbk (by omega) (by omega)
      by_cases hbad : ckBook b ≠ 0 ∨ ckNums ps b.st.length ≠ 0
      · exact changes3_bad W HWD a1 a2 a3 n1 n2 n3 c1 c2 c3 b ps (by omega) (by omega) hl1 hbr hps hbad
      · have hk : ckBook b = 0 := Classical.not_not.1 fun h => hbad (.inl h)
        have hn : ckNums ps b.st.length = 0 := Classical.not_not.1 fun h => hbad (.inr h)
        have hps' := hps.short (by
          have h := Nat.lt_or_ge b.st.length ps.length
          rcases h with h | h
          · exact absurd hn (ckNums_long h)
          · omega)
        by_cases hc : Con b
        · exact changes3 W HWD a1 a2 a3 n1 n2 n3 c1 c2 c3 b ps (by omega) (by omega) hl1 hl2 hbr hps' hk hn hc
        · exact changes3_con W HWD a1 a2 a3 n1 n2 n3 c1 c2 c3 b ps (by omega) (by omega) hl1 hbr hps' hk hn hc
  refine key.mono fun e W' ⟨he, hb⟩ => ⟨_, he, ?_⟩
  exact law_post rfl rfl rfl (by rw [params3]; decide) hW' rfl rfl rfl hb

set_option maxRecDepth 100000 in
theorem topChanges_lifted (os : Os) (started : os.Started) (H : Type) (enc : TypeId × Value → H) :
    ReturnsInHanded {} Tryz.checked os 3 .any (fun w args => (Rows.topChangesSpec.pre enc Tryz.prog Tryz.f3 [] false w args ∧ laidMetH Tryz.prog laidT w) ∧ sizedMet enc Tryz.prog Tryz.f3 (OpenSpec.ofChange Rows.topChangesSpec) false w args)
      (Rows.topChangesSpec.post enc Tryz.prog Tryz.f3 false true false false) := by
  refine returns_and (C := Tryz.checked) (X := fun w _ => laidMetH Tryz.prog laidT w) (fun _ _ _ hh h => h.of_heap hh) ownTop started (by kernel_rfl) Tryz.func3
    (ChangeSpec.witness_shaped (enc := enc) (C := Tryz.checked) (os := os) (X := fun w _ => laidMetH Tryz.prog laidT w) false (World.laidAll Tryz.prog os laidT) #[.agg #[.slice none 0 0, .slice none 0 0], .slice none 0 0] 8 (World.laidAll_os _ _ _) (door_shaped os _) (by kernel_rfl) (by kernel_rfl) (by kernel_rfl) (door_met os _)) ?_
  intro W base args ds gs before hval hW hL hS
  exact topChanges_contract H enc W base args ds gs before hval hW (tabs_of_laid hL hS)

theorem topChanges_row : Rows.TopChangesSaid :=
  OpenClaim.holds_of_wide 3 Tryz.f3 rfl rfl rfl rfl rfl rfl rfl ⟨rfl, rfl, rfl, rfl, rfl⟩ rfl rfl rfl rfl rfl (by kernel_rfl) Tryz.func3 (by kernel_rfl)
    (of_decide_eq_true (by kernel_rfl)) (by unfold Func.isWrapper; first | (rw [if_pos (by decide +kernel)]; kernel_rfl) | (rw [if_neg (by decide +kernel)]; exact ⟨rfl, rfl⟩))
    (fun os started H enc _ => topChanges_lifted os started H enc)
set_option maxRecDepth 100000 in
theorem topChanges_holds : Rows.TopChangesCardSaid :=
  Claim7.holds_tied_plain_at .later [] [.data, .data, .data, .data, .sentinel, .sentinel, .pinned] true (true, "8e7e3764f6950079f5466dcf6b3cec18a754da7a5f53394dbf1cb53333002038") true
    topChanges_row (fun _ h => by cases h) (by kernel_rfl) (fun _ h => by cases h) topChanges_row_tie rfl ⟨rfl, rfl⟩ (by kernel_rfl) rfl
    (fun f fn hf hfn => by
      obtain rfl : f = 3 := Option.some.inj ((show Tryz.prog.funcNamed "bushel/busheltop.TopChanges" = some 3 by kernel_rfl).symm.trans hf) |>.symm
      obtain rfl : fn = Tryz.f3 := (Option.some.inj (Tryz.func3.symm.trans hfn)).symm
      exact ⟨by kernel_rfl, fun j t ht => by
        rw [params3] at ht
        have hm : t ∈ [25, 26] := by simpa using Array.mem_of_getElem? ht
        have hall : ([25, 26].all fun u => !Tryz.prog.wantsStandIn u) = true := by kernel_rfl
        exact (show Tryz.prog.wantsStandIn t = false by simpa using List.all_eq_true.1 hall t hm)⟩)
    (by kernel_rfl)
end Go.Proofs.YtflchbejjofppaaGreatDoor
