/- The law TopSuperposed returns true for every input, and leaves its arguments as they were; the card, tied to the text of the program. No conditions but the laid tables. -/
import Derived.Test.YtijajkfmlghgkaaGreatDoorTopSuperposedP22
import Derived.Test.YtijajkfmlghgkaaGreatDoorCards
import Derived.Test.YtijajkfmlghgkaaGreatDoorTie
import Derived.SevenTiedAt
set_option linter.unusedVariables false
set_option linter.unusedSimpArgs false
set_option maxRecDepth 100000
set_option maxHeartbeats 4000000

namespace Go.Proofs.YtijajkfmlghgkaaGreatDoor
open Go Go.Proofs Go.RowKit Go.ChangeShapes Go.WideShapes Go.ChangeAt Go.Joins Go.Deep Go.Proofs.YtijajkfmlghgkaaGreatDoor.Nu

theorem Zi6 : Tryz.f4.params = #[51, 27, 27] := by kernel_rfl
set_option maxRecDepth 100000 in
theorem topSuperposed_contract (H : Type) (enc : TypeId × Value → H) (W : World) (base : Nat) (args : Array Value) (ds gs : List (DataW H)) (before : List MemPlace)
    (hval : ∀ (j : Nat) t v, Tryz.f4.params[j]? = some t → args[j]? = some v → Value.okWide Tryz.prog W .any base t v)
    (hW : DataW.Whole enc Tryz.prog Tryz.f4.params.toList Rows.topSuperposedSpec.vars false W args.toList ds gs before) (HWD : TbR W) :
    Calls Tryz.prog 4 args W fun e W' => ∃ v, e = .returned v ∧ Rows.topSuperposedSpec.post enc Tryz.prog Tryz.f4 false true false false W args v W' := by
  have hW' := hW
  obtain ⟨p, q, hA0, hV, rfl, hfz, hnd⟩ := hW
  have hA : DataW.TrodAll enc Tryz.prog W 0 (fun _ => true) true Tryz.f4.params.toList args.toList ds p := hA0
  rw [Zi6] at hA hval
  obtain ⟨v0, v1, v2, d0, d1, d2, p0, p1, p2, rfl, rfl, rfl, h0, h1, h2⟩ := trodAll_three hA
  obtain ⟨ah, aw, ac, az, ab, nh, nw, nc, ns, nb, ch, cw, cc, cs, cb, tr, hs, wt, sh, be, ca, rfl, k0, k1, k2, k3, k4⟩ := Zm8 (hval 0 51 v0 rfl rfl) h0
  obtain ⟨a1, n1, c1, rfl⟩ := okWide_slice Tryz.underlying27 (hval 1 27 v1 rfl rfl)
  obtain ⟨a2, n2, c2, rfl⟩ := okWide_slice Tryz.underlying27 (hval 2 27 v2 rfl rfl)
  obtain ⟨la, k5, _, _⟩ := Zib h1
  obtain ⟨lb, k6, _, _⟩ := Zib h2
  have key := sup4 W HWD ah aw ac az ab a1 a2 nh nw nc ns nb ch cw cc cs cb n1 c1 n2 c2 hs wt sh be ca tr la lb k0 k1 k2 k3 k4 k5 k6
  refine key.mono fun e W' ⟨he, hb⟩ => ⟨_, he, ?_⟩
  exact Zo1 rfl rfl rfl (by rw [Zi6]; decide) hW' rfl rfl rfl hb

set_option maxRecDepth 100000 in
theorem topSuperposed_lifted (os : Os) (started : os.Started) (H : Type) (enc : TypeId × Value → H) :
    ReturnsInHanded {} Tryz.checked os 4 .any (fun w args => (Rows.topSuperposedSpec.pre enc Tryz.prog Tryz.f4 [] false w args ∧ laidMetH Tryz.prog Zh9 w) ∧ sizedMet enc Tryz.prog Tryz.f4 (OpenSpec.ofChange Rows.topSuperposedSpec) false w args)
      (Rows.topSuperposedSpec.post enc Tryz.prog Tryz.f4 false true false false) := by
  refine Zi5 (C := Tryz.checked) (X := fun w _ => laidMetH Tryz.prog Zh9 w) (fun _ _ _ hh h => h.of_heap hh) Zst started (by kernel_rfl) Tryz.func4
    (ChangeSpec.witness_shaped (enc := enc) (C := Tryz.checked) (os := os) (X := fun w _ => laidMetH Tryz.prog Zh9 w) false (World.laidAll Tryz.prog os Zh9) #[.agg #[.slice none 0 0, .slice none 0 0, .slice none 0 0, .slice none 0 0, .slice none 0 0, .string ⟨#[]⟩], .slice none 0 0, .slice none 0 0] 8 (World.laidAll_os _ _ _) (Zi4 os _) (by kernel_rfl) (by kernel_rfl) (by kernel_rfl) (Zo0 os _)) ?_
  intro W base args ds gs before hval hW hL hS
  exact topSuperposed_contract H enc W base args ds gs before hval hW (Zia hL hS)

theorem Zsv {a b : Bool} (h : a = true) (g : b = true) : (a && b) = true := by rw [h, g]; rfl
set_option maxRecDepth 100000 in
set_option maxHeartbeats 4000000 in
theorem Zsw : joinedFacts Tryz.pinned.checked.prog 4 Tryz.f4 Rows.topSuperposedSpec Rows.topSuperposedRow = true := by
  unfold joinedFacts
  repeat' with_reducible apply Zsv
  all_goals as_aux_lemma => kernel_rfl
theorem topSuperposed_row : Rows.TopSuperposedSaid :=
  OpenClaim.holds_of_wide 4 Tryz.f4 rfl rfl rfl rfl rfl rfl rfl ⟨rfl, rfl, rfl, rfl, rfl⟩ rfl rfl rfl rfl rfl (by as_aux_lemma => kernel_rfl) Tryz.func4 Zsw
    (of_decide_eq_true (by as_aux_lemma => kernel_rfl)) (by unfold Func.isWrapper; first | (rw [if_pos (by decide +kernel)]; kernel_rfl) | (rw [if_neg (by decide +kernel)]; exact ⟨rfl, rfl⟩))
    (fun os started H enc _ => topSuperposed_lifted os started H enc)
set_option maxRecDepth 100000 in
theorem goes4 : false = Rows.topSuperposedRow.goesBy Tryz.pinned.checked.prog := by
  have h0 : Tryz.pinned.checked.prog.funcNamed Rows.topSuperposedRow.func = some 4 := by as_aux_lemma => kernel_rfl
  have h1 : ((Tryz.pinned.checked.prog.closure 4).any fun g => (Tryz.pinned.checked.prog.funcs[g]?).any Func.goes) = false := by as_aux_lemma => kernel_rfl
  have h2 : Tryz.pinned.checked.prog.funcs.any Func.goes = false := by as_aux_lemma => kernel_rfl
  unfold OpenClaim.goesBy Program.goesAt Program.goesFrom
  rw [h0, Option.any_some, Program.goes, h1, h2, Bool.and_false]
  rfl
set_option maxRecDepth 100000 in
theorem topSuperposed_holds : Rows.TopSuperposedCardSaid :=
  Claim7.holds_tied_plain_at .later [] [.data, .data, .data, .data, .sentinel, .sentinel, .pinned] true (true, "56570f5a58bebd184a0d0593f2f4602075d978fd415a90881842bd3274584197") true
    topSuperposed_row (fun _ h => by cases h) (by as_aux_lemma => kernel_rfl) (fun _ h => by cases h) topSuperposed_row_tie rfl ⟨rfl, rfl⟩ (by as_aux_lemma => kernel_rfl) rfl
    (fun f fn hf hfn => by
      obtain rfl : f = 4 := Option.some.inj ((show Tryz.prog.funcNamed "bushel/busheltop.TopSuperposed" = some 4 by kernel_rfl).symm.trans hf) |>.symm
      obtain rfl : fn = Tryz.f4 := (Option.some.inj (Tryz.func4.symm.trans hfn)).symm
      exact ⟨by as_aux_lemma => kernel_rfl, fun j t ht => by
        rw [Zi6] at ht
        have hm : t ∈ [51, 27, 27] := by simpa using Array.mem_of_getElem? ht
        have hall : ([51, 27, 27].all fun u => !Tryz.prog.wantsStandIn u) = true := by kernel_rfl
        exact (show Tryz.prog.wantsStandIn t = false by simpa using List.all_eq_true.1 hall t hm)⟩)
    goes4
end Go.Proofs.YtijajkfmlghgkaaGreatDoor
