/- The law TopMirrored returns true for every input, and leaves its arguments as they were; the card, tied to the text of the program. No conditions but the laid tables. -/
import Derived.Test.YtijajkfmlghgkaaGreatDoorTopMirroredP22
import Derived.Test.YtijajkfmlghgkaaGreatDoorTopMirroredP23
import Derived.Test.YtijajkfmlghgkaaGreatDoorCards
import Derived.Test.YtijajkfmlghgkaaGreatDoorTie
import Derived.SevenTiedAt
set_option linter.unusedVariables false
set_option linter.unusedSimpArgs false
set_option maxRecDepth 100000
set_option maxHeartbeats 4000000

namespace Go.Proofs.YtijajkfmlghgkaaGreatDoor
open Go Go.Proofs Go.RowKit Go.ChangeShapes Go.WideShapes Go.ChangeAt Go.Joins Go.Deep Go.Proofs.YtijajkfmlghgkaaGreatDoor.Nu

theorem Zip : Tryz.f5.params = #[51, 27] := by kernel_rfl
set_option maxRecDepth 100000 in
theorem topMirrored_contract (H : Type) (enc : TypeId × Value → H) (W : World) (base : Nat) (args : Array Value) (ds gs : List (DataW H)) (before : List MemPlace)
    (hval : ∀ (j : Nat) t v, Tryz.f5.params[j]? = some t → args[j]? = some v → Value.okWide Tryz.prog W .any base t v)
    (hW : DataW.Whole enc Tryz.prog Tryz.f5.params.toList Rows.topMirroredSpec.vars false W args.toList ds gs before) (HWD : TbR W) :
    Calls Tryz.prog 5 args W fun e W' => ∃ v, e = .returned v ∧ Rows.topMirroredSpec.post enc Tryz.prog Tryz.f5 false true false false W args v W' := by
  have hW' := hW
  obtain ⟨p, q, hA0, hV, rfl, hfz, hnd⟩ := hW
  have hA : DataW.TrodAll enc Tryz.prog W 0 (fun _ => true) true Tryz.f5.params.toList args.toList ds p := hA0
  rw [Zip] at hA hval
  obtain ⟨v0, v1, d0, d1, p0, p1, rfl, rfl, rfl, h0, h1⟩ := trodAll_two hA
  obtain ⟨ah, aw, ac, az, ab, nh, nw, nc, ns, nb, ch, cw, cc, cs, cb, tr, hs, wt, sh, be, ca, rfl, k0, k1, k2, k3, k4⟩ := Zm2 (hval 0 51 v0 rfl rfl) h0
  obtain ⟨a1, n1, c1, rfl⟩ := okWide_slice Tryz.underlying27 (hval 1 27 v1 rfl rfl)
  obtain ⟨la, k5, _, _⟩ := Zm1 h1
  have key := mir5 W HWD ah aw ac az ab a1 nh nw nc ns nb ch cw cc cs cb n1 c1 hs wt sh be ca tr la k0 k1 k2 k3 k4 k5
  refine key.mono fun e W' ⟨he, hb⟩ => ⟨_, he, ?_⟩
  exact Zox rfl rfl rfl (by rw [Zip]; decide) hW' rfl rfl rfl hb

set_option maxRecDepth 100000 in
theorem topMirrored_lifted (os : Os) (started : os.Started) (H : Type) (enc : TypeId × Value → H) :
    ReturnsInHanded {} Tryz.checked os 5 .any (fun w args => (Rows.topMirroredSpec.pre enc Tryz.prog Tryz.f5 [] false w args ∧ laidMetH Tryz.prog Zhz w) ∧ sizedMet enc Tryz.prog Tryz.f5 (OpenSpec.ofChange Rows.topMirroredSpec) false w args)
      (Rows.topMirroredSpec.post enc Tryz.prog Tryz.f5 false true false false) := by
  refine Zio (C := Tryz.checked) (X := fun w _ => laidMetH Tryz.prog Zhz w) (fun _ _ _ hh h => h.of_heap hh) Zsm started (by kernel_rfl) Tryz.func5
    (ChangeSpec.witness_shaped (enc := enc) (C := Tryz.checked) (os := os) (X := fun w _ => laidMetH Tryz.prog Zhz w) false (World.laidAll Tryz.prog os Zhz) #[.agg #[.slice none 0 0, .slice none 0 0, .slice none 0 0, .slice none 0 0, .slice none 0 0, .string ⟨#[]⟩], .slice none 0 0] 7 (World.laidAll_os _ _ _) (Zin os _) (by kernel_rfl) (by kernel_rfl) (by kernel_rfl) (Zow os _)) ?_
  intro W base args ds gs before hval hW hL hS
  exact topMirrored_contract H enc W base args ds gs before hval hW (Zh0 hL hS)

theorem Zso {a b : Bool} (h : a = true) (g : b = true) : (a && b) = true := by rw [h, g]; rfl
set_option maxRecDepth 100000 in
set_option maxHeartbeats 4000000 in
theorem Zsp : joinedFacts Tryz.pinned.checked.prog 5 Tryz.f5 Rows.topMirroredSpec Rows.topMirroredRow = true := by
  unfold joinedFacts
  repeat' with_reducible apply Zso
  all_goals as_aux_lemma => kernel_rfl
theorem topMirrored_row : Rows.TopMirroredSaid :=
  OpenClaim.holds_of_wide 5 Tryz.f5 rfl rfl rfl rfl rfl rfl rfl ⟨rfl, rfl, rfl, rfl, rfl⟩ rfl rfl rfl rfl rfl (by as_aux_lemma => kernel_rfl) Tryz.func5 Zsp
    (of_decide_eq_true (by as_aux_lemma => kernel_rfl)) (by unfold Func.isWrapper; first | (rw [if_pos (by decide +kernel)]; kernel_rfl) | (rw [if_neg (by decide +kernel)]; exact ⟨rfl, rfl⟩))
    (fun os started H enc _ => topMirrored_lifted os started H enc)
set_option maxRecDepth 100000 in
theorem goes5 : false = Rows.topMirroredRow.goesBy Tryz.pinned.checked.prog := by
  have h0 : Tryz.pinned.checked.prog.funcNamed Rows.topMirroredRow.func = some 5 := by as_aux_lemma => kernel_rfl
  have h1 : ((Tryz.pinned.checked.prog.closure 5).any fun g => (Tryz.pinned.checked.prog.funcs[g]?).any Func.goes) = false := by as_aux_lemma => kernel_rfl
  have h2 : Tryz.pinned.checked.prog.funcs.any Func.goes = false := by as_aux_lemma => kernel_rfl
  unfold OpenClaim.goesBy Program.goesAt Program.goesFrom
  rw [h0, Option.any_some, Program.goes, h1, h2, Bool.and_false]
  rfl
set_option maxRecDepth 100000 in
theorem topMirrored_holds : Rows.TopMirroredCardSaid :=
  Claim7.holds_tied_plain_at .later [] [.data, .data, .data, .data, .sentinel, .sentinel, .pinned] true (true, "56570f5a58bebd184a0d0593f2f4602075d978fd415a90881842bd3274584197") true
    topMirrored_row (fun _ h => by cases h) (by as_aux_lemma => kernel_rfl) (fun _ h => by cases h) topMirrored_row_tie rfl ⟨rfl, rfl⟩ (by as_aux_lemma => kernel_rfl) rfl
    (fun f fn hf hfn => by
      obtain rfl : f = 5 := Option.some.inj ((show Tryz.prog.funcNamed "bushel/busheltop.TopMirrored" = some 5 by kernel_rfl).symm.trans hf) |>.symm
      obtain rfl : fn = Tryz.f5 := (Option.some.inj (Tryz.func5.symm.trans hfn)).symm
      exact ⟨by as_aux_lemma => kernel_rfl, fun j t ht => by
        rw [Zip] at ht
        have hm : t ∈ [51, 27] := by simpa using Array.mem_of_getElem? ht
        have hall : ([51, 27].all fun u => !Tryz.prog.wantsStandIn u) = true := by kernel_rfl
        exact (show Tryz.prog.wantsStandIn t = false by simpa using List.all_eq_true.1 hall t hm)⟩)
    goes5
end Go.Proofs.YtijajkfmlghgkaaGreatDoor
