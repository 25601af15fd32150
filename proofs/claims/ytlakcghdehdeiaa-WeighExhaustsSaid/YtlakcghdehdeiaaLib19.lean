/- Lemmas on the way to the laws (part 19): Sj Sk Sm Sn -/
import Derived.Test.YtlakcghdehdeiaaLib18
import Derived.RegionTactic
import Derived.BigRegion
import Derived.Test.YtlakcghdehdeiaaLib17
import Derived.Test.YtlakcghdehdeiaaLib05
import Derived.Test.YtlakcghdehdeiaaLib09
set_option linter.unusedVariables false
set_option linter.unusedSimpArgs false

/- Two rows of marks made in whatever order. -/
namespace Go.Proofs.Ytlakcghdehdeiaa
open Go Go.Proofs Go.RowKit

/-- 'make([]T, n)' of elements of one cell, as a step of a region that draws its order. -/
theorem step_mk1 {α : Type} (f : α → List Value) (x0 : α) (z : Value) (hz : f x0 = [z]) (t e : TypeId) (bytes : Nat) {P : Program} (hT : P.underlying t = some (.slice e)) (hI : (P.info? e).map (fun i => (i.zero, i.size, i.bytes)) = some (some z, 1, bytes)) (hzc : z.cells = #[z])
    (hby : bytes ≤ 1000) (base : Nat) (w : World) (n : Nat) (hn : n ≤ 1000000) (hb : base ≤ w.heap.size)
    {ops : Array Oper} {o : Oper} {a : Act} {K : Act → World → Prop} {Q : Exit → Act → World → Prop} {E : Prop} (hg : o.guard = none) (l c : Operand) (hop : o.op = Op.makeSlice t l c) (kl kc : IntKind) (hl : a.eval l = .int kl n) (hc : a.eval c = .int kc n)
    (h : ∀ w', Own f 1 e w' base (.slice (some ⟨w.heap.size, 0, none⟩) n n) (List.replicate n x0) → w.grownBy w' none → K (a.put o.dst (.slice (some ⟨w.heap.size, 0, none⟩) n n)) w') :
    if Region.wanted o (yielded ops a.tmps) = true then Oper.wp P o a w K Q else E := by
  have hw : Region.wanted o (yielded ops a.tmps) = true := by simp [Region.wanted, hg]
  rw [if_pos hw]
  obtain ⟨i, hi, h0, h1, h2⟩ := info_parts hI
  have hmul : bytes * n ≤ 1000 * 1000000 := Nat.mul_le_mul hby hn
  obtain ⟨w', hrun, r1, r2⟩ := run_make_full (P := P) (w := w) base t e i z 1 hT hi h0 h1 kl kc n (by rw [h2]; omega) (by unfold maxLen; omega) hb
  unfold Oper.wp
  simp [execOp, hop, hl, hc, hrun, Result.andThen]
  refine h w' ?_ r2
  unfold Own
  rw [hzc, Nat.mul_one, toList_madeCells_one] at r1
  have : (List.replicate n x0).flatMap f = List.replicate n z := by
    clear r1 hmul h hl hc hn hrun
    induction n with
    | zero => rfl
    | succ n ih => rw [List.replicate_succ, List.flatMap_cons, ih, hz, List.replicate_succ]; rfl
  rw [this, List.length_replicate]
  exact r1

noncomputable def p77m : Code := codeL (codeL (codeL (codeL (codeL (Try.f77.body.getD .skip)))))
set_option maxRecDepth 100000 in
set_option maxHeartbeats 1000000 in
theorem p77m_walk (wr : World) {q1 q2 q3 q4 q5 q6 q7 q8 q9 q10 q11 q12 q13 q14 q15 q16 q17 q18 q19 q20 q21 q22 q23 q24 q25 q26 q27 q28 q29 q30 q31 q32 q33 q34 q35 q36 q37 q38 q39 q40 q41 q42 q43 q44 q45 q46 q47 q48 q49 q50 q51 q52 q53 q54 q55 q56 q57 q58 q59 q60 q61 q62 q63 q64 q65 q66 q67 q68 q69 q70 q71 q72 q73 q74 q75 q76 q77 q78 q79 q80 q81 q82 q83 q84 q85 q86 q87 q88 q89 q90 q91 q92 q93 q94 q95 q96 q97 q98 q99 q100 q101 q102 q103 q104 q105 q106 q107 q108 q109 q110 q111 q112 q113 q114 q115 : Value} (n : Nat) (hn : n ≤ 1000) : p77m.wp Try.prog (fun (e : Exit) (a : Act) (W' : World) => e = .normal ∧ ∃ (gf gt : Nat)  (z : Nat → Value), a = { tmps := #[.int .i64 n, q1, q2, q3, q4, q5, q6, q7, .slice (some ⟨gf, 0, none⟩) n n, .slice (some ⟨gt, 0, none⟩) n n, q10, q11, q12, q13, q14, z 15, z 16, z 17, z 18, q19, q20, q21, q22, q23, q24, q25, q26, q27, q28, q29, q30, q31, q32, q33, q34, q35, q36, q37, q38, q39, q40, q41, q42, q43, q44, q45, q46, q47, q48, q49, q50, q51, q52, q53, q54, q55, q56, q57, q58, q59, q60, q61, q62, q63, q64, q65, q66, q67, q68, q69, q70, q71, q72, q73, q74, q75, q76, q77, q78, q79, q80, q81, q82, q83, q84, q85, q86, q87, q88, q89, q90, q91, q92, q93, q94, q95, q96, q97, q98, q99, q100, q101, q102, q103, q104, q105, q106, q107, q108, q109, q110, q111, q112, q113, q114, q115], defers := [] } ∧ Own encB 1 4 W' wr.heap.size (.slice (some ⟨gf, 0, none⟩) n n) (List.replicate n false) ∧ Own encB 1 4 W' wr.heap.size (.slice (some ⟨gt, 0, none⟩) n n) (List.replicate n false) ∧ gf ≠ gt ∧ wr.heap.size ≤ gf ∧ wr.heap.size ≤ gt ∧ gf < W'.heap.size ∧ gt < W'.heap.size ∧ Below wr.heap.size wr W') { tmps := #[.int .i64 n, q1, q2, q3, q4, q5, q6, q7, q8, q9, q10, q11, q12, q13, q14, q15, q16, q17, q18, q19, q20, q21, q22, q23, q24, q25, q26, q27, q28, q29, q30, q31, q32, q33, q34, q35, q36, q37, q38, q39, q40, q41, q42, q43, q44, q45, q46, q47, q48, q49, q50, q51, q52, q53, q54, q55, q56, q57, q58, q59, q60, q61, q62, q63, q64, q65, q66, q67, q68, q69, q70, q71, q72, q73, q74, q75, q76, q77, q78, q79, q80, q81, q82, q83, q84, q85, q86, q87, q88, q89, q90, q91, q92, q93, q94, q95, q96, q97, q98, q99, q100, q101, q102, q103, q104, q105, q106, q107, q108, q109, q110, q111, q112, q113, q114, q115], defers := [] } wr := by
  obtain ⟨Q, hQ⟩ : ∃ Q : Exit → Act → World → Prop, (fun (e : Exit) (a : Act) (W' : World) => e = .normal ∧ ∃ (gf gt : Nat)  (z : Nat → Value), a = { tmps := #[.int .i64 n, q1, q2, q3, q4, q5, q6, q7, .slice (some ⟨gf, 0, none⟩) n n, .slice (some ⟨gt, 0, none⟩) n n, q10, q11, q12, q13, q14, z 15, z 16, z 17, z 18, q19, q20, q21, q22, q23, q24, q25, q26, q27, q28, q29, q30, q31, q32, q33, q34, q35, q36, q37, q38, q39, q40, q41, q42, q43, q44, q45, q46, q47, q48, q49, q50, q51, q52, q53, q54, q55, q56, q57, q58, q59, q60, q61, q62, q63, q64, q65, q66, q67, q68, q69, q70, q71, q72, q73, q74, q75, q76, q77, q78, q79, q80, q81, q82, q83, q84, q85, q86, q87, q88, q89, q90, q91, q92, q93, q94, q95, q96, q97, q98, q99, q100, q101, q102, q103, q104, q105, q106, q107, q108, q109, q110, q111, q112, q113, q114, q115], defers := [] } ∧ Own encB 1 4 W' wr.heap.size (.slice (some ⟨gf, 0, none⟩) n n) (List.replicate n false) ∧ Own encB 1 4 W' wr.heap.size (.slice (some ⟨gt, 0, none⟩) n n) (List.replicate n false) ∧ gf ≠ gt ∧ wr.heap.size ≤ gf ∧ wr.heap.size ≤ gt ∧ gf < W'.heap.size ∧ gt < W'.heap.size ∧ Below wr.heap.size wr W') = Q := ⟨_, rfl⟩
  rw [hQ]
  have HQ := Lib.hid hQ
  clear hQ
  simp only [p77m, Try.f77, Option.getD, codeL, codeR]
  refine wp_region_noPanic ?_
  refine wp_region_any (by kernel_rfl) ?_
  change wpAny _ _ _ _ _ _ _ (World.drew _)
  refine wpAny_take (i := 0) (v := .int .i64 n) rfl (by kernel_rfl) (by kernel_rfl) (by kernel_rfl) (fun _ _ _ h => h) (Or.inl ⟨by rfl, fun w => by go_simp⟩) ?_
  refine wpAny_take (i := 2) (v := .int .i64 n) rfl (by kernel_rfl) (by kernel_rfl) (by kernel_rfl) (fun _ _ _ h => h) (Or.inl ⟨by rfl, fun w => by go_simp⟩) ?_
  try go_simp
  refine wpAny_ready (rs := [1, 3]) (by kernel_rfl) (by simp) ?_
  refine (AllReady.cons rfl (fun K hK => ?_) (AllReady.cons rfl (fun K hK => ?_) AllReady.nil))
  · refine step_mk1 encB false (.bool false) rfl 112 4 1 Try.underlying112 Try.infoB rfl (by decide) wr.heap.size _ n (by omega) (by simp) rfl _ _ rfl .i64 .i64 rfl rfl ?_
    intro W1 hoW1 hgW1
    refine hK _ _ ?_
    clear hK K
    try go_simp
    refine wpAny_ready (rs := [3, 4]) (by kernel_rfl) (by simp) ?_
    refine (AllReady.cons rfl (fun K hK => ?_) (AllReady.cons rfl (fun K hK => ?_) AllReady.nil))
    · refine step_mk1 encB false (.bool false) rfl 112 4 1 Try.underlying112 Try.infoB rfl (by decide) wr.heap.size _ n (by omega) (((Below.drew (Below.refl wr.heap.size wr)).trans ((grown_none_below hgW1).mono (by simp))).size) rfl _ _ rfl .i64 .i64 rfl rfl ?_
      intro W2 hoW2 hgW2
      refine hK _ _ ?_
      clear hK K
      try go_simp
      refine wpAny_ready (rs := [4]) (by kernel_rfl) (by simp) ?_
      refine (AllReady.cons rfl (fun K hK => ?_) AllReady.nil)
      · go_simp
        refine hK _ _ ?_
        clear hK K
        try go_simp
        refine wpAny_ready (rs := [5]) (by kernel_rfl) (by simp) ?_
        refine (AllReady.cons rfl (fun K hK => ?_) AllReady.nil)
        · go_simp
          refine hK _ _ ?_
          clear hK K
          try go_simp
          refine wpAny_done (by kernel_rfl) ?_ _
          refine NoPanic.normal ?_
          rw [← HQ.out]
          have zA : wr.heap.size < W1.heap.size := (World.ownsRow.lt hoW1 _ rfl).2
          have zB : W1.heap.size < W2.heap.size := (World.ownsRow.lt hoW2 _ rfl).2
          have hbA : Below wr.heap.size wr W1 := (Below.drew (Below.refl wr.heap.size wr)).trans ((grown_none_below hgW1).mono (by simp))
          have hbB : Below wr.heap.size wr W2 := hbA.trans ((grown_none_below hgW2).mono hbA.size)
          have hsB := (grown_none_below hgW2).size
          exact ⟨rfl, wr.heap.size, W1.heap.size, fun i => [_, _, _, _].getD (i - 15) undef, rfl, hoW1.later (grown_none_below hgW2), hoW2, by omega, by omega, by omega, by omega, by omega, hbB⟩
    · go_simp
      refine hK _ _ ?_
      clear hK K
      try go_simp
      refine wpAny_ready (rs := [3]) (by kernel_rfl) (by simp) ?_
      refine (AllReady.cons rfl (fun K hK => ?_) AllReady.nil)
      · refine step_mk1 encB false (.bool false) rfl 112 4 1 Try.underlying112 Try.infoB rfl (by decide) wr.heap.size _ n (by omega) (((Below.drew (Below.refl wr.heap.size wr)).trans ((grown_none_below hgW1).mono (by simp))).size) rfl _ _ rfl .i64 .i64 rfl rfl ?_
        intro W2 hoW2 hgW2
        refine hK _ _ ?_
        clear hK K
        try go_simp
        refine wpAny_ready (rs := [5]) (by kernel_rfl) (by simp) ?_
        refine (AllReady.cons rfl (fun K hK => ?_) AllReady.nil)
        · go_simp
          refine hK _ _ ?_
          clear hK K
          try go_simp
          refine wpAny_done (by kernel_rfl) ?_ _
          refine NoPanic.normal ?_
          rw [← HQ.out]
          have zA : wr.heap.size < W1.heap.size := (World.ownsRow.lt hoW1 _ rfl).2
          have zB : W1.heap.size < W2.heap.size := (World.ownsRow.lt hoW2 _ rfl).2
          have hbA : Below wr.heap.size wr W1 := (Below.drew (Below.refl wr.heap.size wr)).trans ((grown_none_below hgW1).mono (by simp))
          have hbB : Below wr.heap.size wr W2 := hbA.trans ((grown_none_below hgW2).mono hbA.size)
          have hsB := (grown_none_below hgW2).size
          exact ⟨rfl, wr.heap.size, W1.heap.size, fun i => [_, _, _, _].getD (i - 15) undef, rfl, hoW1.later (grown_none_below hgW2), hoW2, by omega, by omega, by omega, by omega, by omega, hbB⟩
  · refine step_mk1 encB false (.bool false) rfl 112 4 1 Try.underlying112 Try.infoB rfl (by decide) wr.heap.size _ n (by omega) (by simp) rfl _ _ rfl .i64 .i64 rfl rfl ?_
    intro W1 hoW1 hgW1
    refine hK _ _ ?_
    clear hK K
    try go_simp
    refine wpAny_ready (rs := [1]) (by kernel_rfl) (by simp) ?_
    refine (AllReady.cons rfl (fun K hK => ?_) AllReady.nil)
    · refine step_mk1 encB false (.bool false) rfl 112 4 1 Try.underlying112 Try.infoB rfl (by decide) wr.heap.size _ n (by omega) (((Below.drew (Below.refl wr.heap.size wr)).trans ((grown_none_below hgW1).mono (by simp))).size) rfl _ _ rfl .i64 .i64 rfl rfl ?_
      intro W2 hoW2 hgW2
      refine hK _ _ ?_
      clear hK K
      try go_simp
      refine wpAny_ready (rs := [4]) (by kernel_rfl) (by simp) ?_
      refine (AllReady.cons rfl (fun K hK => ?_) AllReady.nil)
      · go_simp
        refine hK _ _ ?_
        clear hK K
        try go_simp
        refine wpAny_ready (rs := [5]) (by kernel_rfl) (by simp) ?_
        refine (AllReady.cons rfl (fun K hK => ?_) AllReady.nil)
        · go_simp
          refine hK _ _ ?_
          clear hK K
          try go_simp
          refine wpAny_done (by kernel_rfl) ?_ _
          refine NoPanic.normal ?_
          rw [← HQ.out]
          have zA : wr.heap.size < W1.heap.size := (World.ownsRow.lt hoW1 _ rfl).2
          have zB : W1.heap.size < W2.heap.size := (World.ownsRow.lt hoW2 _ rfl).2
          have hbA : Below wr.heap.size wr W1 := (Below.drew (Below.refl wr.heap.size wr)).trans ((grown_none_below hgW1).mono (by simp))
          have hbB : Below wr.heap.size wr W2 := hbA.trans ((grown_none_below hgW2).mono hbA.size)
          have hsB := (grown_none_below hgW2).size
          exact ⟨rfl, W1.heap.size, wr.heap.size, fun i => [_, _, _, _].getD (i - 15) undef, rfl, hoW2, hoW1.later (grown_none_below hgW2), by omega, by omega, by omega, by omega, by omega, hbB⟩

noncomputable def p74m : Code := codeL (codeR (codeL (codeL (codeL (codeR (Try.f74.body.getD .skip))))))
set_option maxRecDepth 100000 in
set_option maxHeartbeats 1000000 in
theorem p74m_walk (wr : World) {q1 q2 q3 q4 q5 q6 q7 q8 q9 q10 q11 q12 q13 q14 q15 q16 q17 q18 q19 q20 q21 q22 q23 q24 q25 q26 q27 q28 q29 q30 q31 q32 q33 q34 q35 q36 q37 q38 q39 q40 q41 q42 q43 q44 q45 q46 q47 q48 q49 q50 q51 q52 q53 q54 q55 q56 q57 q58 q59 q60 q61 q62 q63 q64 q65 q66 q67 q68 q69 q70 q71 q72 q73 q74 q75 q76 q77 q78 q79 q80 q81 q82 q83 q84 q85 q86 q87 q88 q89 q90 q91 q92 q93 q94 q95 : Value} (n : Nat) (hn : n ≤ 1000) : p74m.wp Try.prog (fun (e : Exit) (a : Act) (W' : World) => e = .normal ∧ ∃ (gf gt : Nat)  (z : Nat → Value), a = { tmps := #[.int .i64 n, q1, q2, q3, q4, q5, .slice (some ⟨gf, 0, none⟩) n n, .slice (some ⟨gt, 0, none⟩) n n, q8, q9, q10, q11, q12, q13, q14, q15, q16, z 17, z 18, z 19, z 20, q21, q22, q23, q24, q25, q26, q27, q28, q29, q30, q31, q32, q33, q34, q35, q36, q37, q38, q39, q40, q41, q42, q43, q44, q45, q46, q47, q48, q49, q50, q51, q52, q53, q54, q55, q56, q57, q58, q59, q60, q61, q62, q63, q64, q65, q66, q67, q68, q69, q70, q71, q72, q73, q74, q75, q76, q77, q78, q79, q80, q81, q82, q83, q84, q85, q86, q87, q88, q89, q90, q91, q92, q93, q94, q95], defers := [] } ∧ Own encB 1 4 W' wr.heap.size (.slice (some ⟨gf, 0, none⟩) n n) (List.replicate n false) ∧ Own encB 1 4 W' wr.heap.size (.slice (some ⟨gt, 0, none⟩) n n) (List.replicate n false) ∧ gf ≠ gt ∧ wr.heap.size ≤ gf ∧ wr.heap.size ≤ gt ∧ gf < W'.heap.size ∧ gt < W'.heap.size ∧ Below wr.heap.size wr W') { tmps := #[.int .i64 n, q1, q2, q3, q4, q5, q6, q7, q8, q9, q10, q11, q12, q13, q14, q15, q16, q17, q18, q19, q20, q21, q22, q23, q24, q25, q26, q27, q28, q29, q30, q31, q32, q33, q34, q35, q36, q37, q38, q39, q40, q41, q42, q43, q44, q45, q46, q47, q48, q49, q50, q51, q52, q53, q54, q55, q56, q57, q58, q59, q60, q61, q62, q63, q64, q65, q66, q67, q68, q69, q70, q71, q72, q73, q74, q75, q76, q77, q78, q79, q80, q81, q82, q83, q84, q85, q86, q87, q88, q89, q90, q91, q92, q93, q94, q95], defers := [] } wr := by
  obtain ⟨Q, hQ⟩ : ∃ Q : Exit → Act → World → Prop, (fun (e : Exit) (a : Act) (W' : World) => e = .normal ∧ ∃ (gf gt : Nat)  (z : Nat → Value), a = { tmps := #[.int .i64 n, q1, q2, q3, q4, q5, .slice (some ⟨gf, 0, none⟩) n n, .slice (some ⟨gt, 0, none⟩) n n, q8, q9, q10, q11, q12, q13, q14, q15, q16, z 17, z 18, z 19, z 20, q21, q22, q23, q24, q25, q26, q27, q28, q29, q30, q31, q32, q33, q34, q35, q36, q37, q38, q39, q40, q41, q42, q43, q44, q45, q46, q47, q48, q49, q50, q51, q52, q53, q54, q55, q56, q57, q58, q59, q60, q61, q62, q63, q64, q65, q66, q67, q68, q69, q70, q71, q72, q73, q74, q75, q76, q77, q78, q79, q80, q81, q82, q83, q84, q85, q86, q87, q88, q89, q90, q91, q92, q93, q94, q95], defers := [] } ∧ Own encB 1 4 W' wr.heap.size (.slice (some ⟨gf, 0, none⟩) n n) (List.replicate n false) ∧ Own encB 1 4 W' wr.heap.size (.slice (some ⟨gt, 0, none⟩) n n) (List.replicate n false) ∧ gf ≠ gt ∧ wr.heap.size ≤ gf ∧ wr.heap.size ≤ gt ∧ gf < W'.heap.size ∧ gt < W'.heap.size ∧ Below wr.heap.size wr W') = Q := ⟨_, rfl⟩
  rw [hQ]
  have HQ := Lib.hid hQ
  clear hQ
  simp only [p74m, Try.f74, Option.getD, codeL, codeR]
  refine wp_region_noPanic ?_
  refine wp_region_any (by kernel_rfl) ?_
  change wpAny _ _ _ _ _ _ _ (World.drew _)
  refine wpAny_take (i := 0) (v := .int .i64 n) rfl (by kernel_rfl) (by kernel_rfl) (by kernel_rfl) (fun _ _ _ h => h) (Or.inl ⟨by rfl, fun w => by go_simp⟩) ?_
  refine wpAny_take (i := 2) (v := .int .i64 n) rfl (by kernel_rfl) (by kernel_rfl) (by kernel_rfl) (fun _ _ _ h => h) (Or.inl ⟨by rfl, fun w => by go_simp⟩) ?_
  try go_simp
  refine wpAny_ready (rs := [1, 3]) (by kernel_rfl) (by simp) ?_
  refine (AllReady.cons rfl (fun K hK => ?_) (AllReady.cons rfl (fun K hK => ?_) AllReady.nil))
  · refine step_mk1 encB false (.bool false) rfl 112 4 1 Try.underlying112 Try.infoB rfl (by decide) wr.heap.size _ n (by omega) (by simp) rfl _ _ rfl .i64 .i64 rfl rfl ?_
    intro W1 hoW1 hgW1
    refine hK _ _ ?_
    clear hK K
    try go_simp
    refine wpAny_ready (rs := [3, 4]) (by kernel_rfl) (by simp) ?_
    refine (AllReady.cons rfl (fun K hK => ?_) (AllReady.cons rfl (fun K hK => ?_) AllReady.nil))
    · refine step_mk1 encB false (.bool false) rfl 112 4 1 Try.underlying112 Try.infoB rfl (by decide) wr.heap.size _ n (by omega) (((Below.drew (Below.refl wr.heap.size wr)).trans ((grown_none_below hgW1).mono (by simp))).size) rfl _ _ rfl .i64 .i64 rfl rfl ?_
      intro W2 hoW2 hgW2
      refine hK _ _ ?_
      clear hK K
      try go_simp
      refine wpAny_ready (rs := [4]) (by kernel_rfl) (by simp) ?_
      refine (AllReady.cons rfl (fun K hK => ?_) AllReady.nil)
      · go_simp
        refine hK _ _ ?_
        clear hK K
        try go_simp
        refine wpAny_ready (rs := [5]) (by kernel_rfl) (by simp) ?_
        refine (AllReady.cons rfl (fun K hK => ?_) AllReady.nil)
        · go_simp
          refine hK _ _ ?_
          clear hK K
          try go_simp
          refine wpAny_done (by kernel_rfl) ?_ _
          refine NoPanic.normal ?_
          rw [← HQ.out]
          have zA : wr.heap.size < W1.heap.size := (World.ownsRow.lt hoW1 _ rfl).2
          have zB : W1.heap.size < W2.heap.size := (World.ownsRow.lt hoW2 _ rfl).2
          have hbA : Below wr.heap.size wr W1 := (Below.drew (Below.refl wr.heap.size wr)).trans ((grown_none_below hgW1).mono (by simp))
          have hbB : Below wr.heap.size wr W2 := hbA.trans ((grown_none_below hgW2).mono hbA.size)
          have hsB := (grown_none_below hgW2).size
          exact ⟨rfl, wr.heap.size, W1.heap.size, fun i => [_, _, _, _].getD (i - 17) undef, rfl, hoW1.later (grown_none_below hgW2), hoW2, by omega, by omega, by omega, by omega, by omega, hbB⟩
    · go_simp
      refine hK _ _ ?_
      clear hK K
      try go_simp
      refine wpAny_ready (rs := [3]) (by kernel_rfl) (by simp) ?_
      refine (AllReady.cons rfl (fun K hK => ?_) AllReady.nil)
      · refine step_mk1 encB false (.bool false) rfl 112 4 1 Try.underlying112 Try.infoB rfl (by decide) wr.heap.size _ n (by omega) (((Below.drew (Below.refl wr.heap.size wr)).trans ((grown_none_below hgW1).mono (by simp))).size) rfl _ _ rfl .i64 .i64 rfl rfl ?_
        intro W2 hoW2 hgW2
        refine hK _ _ ?_
        clear hK K
        try go_simp
        refine wpAny_ready (rs := [5]) (by kernel_rfl) (by simp) ?_
        refine (AllReady.cons rfl (fun K hK => ?_) AllReady.nil)
        · go_simp
          refine hK _ _ ?_
          clear hK K
          try go_simp
          refine wpAny_done (by kernel_rfl) ?_ _
          refine NoPanic.normal ?_
          rw [← HQ.out]
          have zA : wr.heap.size < W1.heap.size := (World.ownsRow.lt hoW1 _ rfl).2
          have zB : W1.heap.size < W2.heap.size := (World.ownsRow.lt hoW2 _ rfl).2
          have hbA : Below wr.heap.size wr W1 := (Below.drew (Below.refl wr.heap.size wr)).trans ((grown_none_below hgW1).mono (by simp))
          have hbB : Below wr.heap.size wr W2 := hbA.trans ((grown_none_below hgW2).mono hbA.size)
          have hsB := (grown_none_below hgW2).size
          exact ⟨rfl, wr.heap.size, W1.heap.size, fun i => [_, _, _, _].getD (i - 17) undef, rfl, hoW1.later (grown_none_below hgW2), hoW2, by omega, by omega, by omega, by omega, by omega, hbB⟩
  · refine step_mk1 encB false (.bool false) rfl 112 4 1 Try.underlying112 Try.infoB rfl (by decide) wr.heap.size _ n (by omega) (by simp) rfl _ _ rfl .i64 .i64 rfl rfl ?_
    intro W1 hoW1 hgW1
    refine hK _ _ ?_
    clear hK K
    try go_simp
    refine wpAny_ready (rs := [1]) (by kernel_rfl) (by simp) ?_
    refine (AllReady.cons rfl (fun K hK => ?_) AllReady.nil)
    · refine step_mk1 encB false (.bool false) rfl 112 4 1 Try.underlying112 Try.infoB rfl (by decide) wr.heap.size _ n (by omega) (((Below.drew (Below.refl wr.heap.size wr)).trans ((grown_none_below hgW1).mono (by simp))).size) rfl _ _ rfl .i64 .i64 rfl rfl ?_
      intro W2 hoW2 hgW2
      refine hK _ _ ?_
      clear hK K
      try go_simp
      refine wpAny_ready (rs := [4]) (by kernel_rfl) (by simp) ?_
      refine (AllReady.cons rfl (fun K hK => ?_) AllReady.nil)
      · go_simp
        refine hK _ _ ?_
        clear hK K
        try go_simp
        refine wpAny_ready (rs := [5]) (by kernel_rfl) (by simp) ?_
        refine (AllReady.cons rfl (fun K hK => ?_) AllReady.nil)
        · go_simp
          refine hK _ _ ?_
          clear hK K
          try go_simp
          refine wpAny_done (by kernel_rfl) ?_ _
          refine NoPanic.normal ?_
          rw [← HQ.out]
          have zA : wr.heap.size < W1.heap.size := (World.ownsRow.lt hoW1 _ rfl).2
          have zB : W1.heap.size < W2.heap.size := (World.ownsRow.lt hoW2 _ rfl).2
          have hbA : Below wr.heap.size wr W1 := (Below.drew (Below.refl wr.heap.size wr)).trans ((grown_none_below hgW1).mono (by simp))
          have hbB : Below wr.heap.size wr W2 := hbA.trans ((grown_none_below hgW2).mono hbA.size)
          have hsB := (grown_none_below hgW2).size
          exact ⟨rfl, W1.heap.size, wr.heap.size, fun i => [_, _, _, _].getD (i - 17) undef, rfl, hoW2, hoW1.later (grown_none_below hgW2), by omega, by omega, by omega, by omega, by omega, hbB⟩
end Go.Proofs.Ytlakcghdehdeiaa

/- Walks: the reference's extreme. -/
namespace Go.Proofs.Ytlakcghdehdeiaa
open Go Go.Proofs Go.RowKit

/-- No arc leads from a node to itself. -/
def NoLoop (l : List Ac) : Prop := ∀ a ∈ l, a.fr ≠ a.to
theorem roomOf_bump_same {l : List Ac} {s : St} {a : Ac} (m : Int) (h : l[s.1]? = some a) : roomOf (bump l s m) s = roomOf l s - m := by
  have h2 : (bump l s m)[s.1]? = some { a with fl := if s.2 then a.fl + m else a.fl - m } := by
    unfold bump; rw [List.getElem?_modify, h]; simp
  obtain ⟨i, f⟩ := s
  rw [(headOf_at h2 f).2.2, (headOf_at h f).2.2]
  cases f <;> simp <;> omega
theorem NoLoop.shp {l l' : List Ac} (h : NoLoop l) (hs : shp l' = shp l) : NoLoop l' := fun a ha => by
  obtain ⟨i, hi, rfl⟩ := List.mem_iff_getElem.1 ha
  have hi' : i < l.length := by rw [← shp_length hs]; exact hi
  have := bare_eq (shp_get hs i hi hi')
  have := h l[i] (List.getElem_mem hi')
  omega

set_option maxRecDepth 100000 in
set_option maxHeartbeats 1000000 in
theorem extreme77 (w : World) (B : Nat) (v : Value) (l0 : List Ac) (n i : Nat) (high : Bool) (hown : Own Ac.encR 5 99 w B v l0) (hf : Fits l0) (hs : SmallS l0 1000000000000) (hE : Ends n l0) (hne : NoLoop l0) (hi : i < l0.length) (hl : l0.length ≤ 1000) (hn : n ≤ 1000) :
    Calls Try.prog 77 #[.int .i64 n, v, .int .i64 i, .bool high] w (fun e w' => e = .returned (.tuple #[]) ∧ ∃ l', ArcW w w' B v l' ∧ PushR l0 l' i high) := by
  obtain ⟨g, cap, rfl, hg, hgs⟩ := hown.form (by omega)
  have HOWN := Lib.hid hown
  have HF := Lib.hid hf
  have HS := Lib.hid hs
  have HE := Lib.hid hE
  have HNE := Lib.hid hne
  clear hown hf hs hE hne
  have HS1 := Lib.hid (fun (W : World) (L : List Bool) (q : Value) (b : Nat) (hL : L.length ≤ 1000000000) (h : Own encB 1 4 W b q L) => h.toSl encB_len hL)
  obtain ⟨pm, hpm⟩ : ∃ p, p77m = p := ⟨_, rfl⟩
  have HPM := Lib.hid hpm
  simp only [p77m, Try.f77, Option.getD, codeL, codeR] at hpm
  have HPM2 := Lib.hid hpm
  clear hpm
  go_enter Try.func77, Try.ntmps77
  cases high
  · obtain ⟨Q, hQ⟩ : ∃ Q : Ending → World → Prop, (fun (e : Ending) (w' : World) => e = .returned (.tuple #[]) ∧ ∃ l', ArcW w w' B (.slice (some ⟨g, 0, none⟩) l0.length cap) l' ∧ PushR l0 l' i false) = Q := ⟨_, rfl⟩
    rw [hQ]
    have HQ := Lib.hid hQ
    clear hQ
    go_wp2_with fail
    go_loopw [] (fun wr => ∃ l, ArcW w wr B (.slice (some ⟨g, 0, none⟩) l0.length cap) l ∧ MidR l0 l) (fun wr => leastN fun m => ∃ l, (ArcW w wr B (.slice (some ⟨g, 0, none⟩) l0.length cap) l ∧ MidR l0 l) ∧ (roomOf l (i, false)).toNat = m)
    case atStart => exact ⟨l0, ⟨HOWN.out, Kept.refl _ _⟩, MidR.refl HF.out⟩
    case round =>
    obtain ⟨⟨l, ⟨hw, hm⟩, hmm⟩, _⟩ := leastN_spec (p := fun m => ∃ l, (ArcW w wr B (.slice (some ⟨g, 0, none⟩) l0.length cap) l ∧ MidR l0 l) ∧ (roomOf l (i, false)).toNat = m) (by obtain ⟨l, h⟩ := hrel; exact ⟨_, l, h, rfl⟩)
    clear hrel
    have hll : l.length = l0.length := shp_length hm.shape
    have HE' := Lib.hid (shp_ends hm.shape.symm HE.out)
    have HNE' := Lib.hid (HNE.out.shp hm.shape)
    have HSM := Lib.hid (small_of (SmallS.shp hm.shape HS.out) hm.fits)
    have hil : i < l.length := by omega
    obtain ⟨ar, har⟩ : ∃ a, l[i]? = some a := ⟨_, List.getElem?_eq_getElem hil⟩
    have hmem := List.mem_of_getElem? har
    have hbd := HSM.out ar hmem
    have hends := HE'.out ar hmem
    have hnoloop := HNE'.out ar hmem
    have hfits := hm.fits ar hmem
    have hat := hw.own.atN hll Ac.encR_len i hil
    rw [(List.getElem?_eq_some_iff.1 har).2] at hat
    obtain ⟨g1, g2, g3⟩ := headOf_at har false
    rw [g3] at hmm
    obtain ⟨fr, to, lo, hi, fl⟩ := ar
    dsimp only at *
    obtain ⟨n1', n2'⟩ := hends
    obtain ⟨q4', q5', q6', q7', q8', q9'⟩ := hbd
    have hgr : g < wr.heap.size := (World.ownsRow.lt hw.own _ rfl).2
    have HWM := Lib.hid hmm
    have HCA := Lib.hid (fun (W : World) (h : Below wr.heap.size wr W) => (hat.below h hgr).c5)
    have HZ := Lib.hid (fun (W : World) (h : Below wr.heap.size wr W) => (Nat.lt_of_lt_of_le hgr h.size : g < W.heap.size))
    have HW := Lib.hid hw
    have HM := Lib.hid hm
    have HAR := Lib.hid har
    clear hw hm hat har hmem hmm
    rw [HPM2.out]
    go_wp2_with fail
    rw [← HPM.out]
    refine wp_mono (p77m_walk wr n hn) ?_
    rintro e a w1 ⟨rfl, gf, gt, z, rfl, of, ot, hne, h1, h2, h3, h4, hb1⟩
    have HB1 := Lib.hid hb1
    have HOF := Lib.hid of
    have HOT := Lib.hid ot
    clear hb1 of ot
    obtain ⟨e0, e1, e2, e3, e4⟩ := HCA.out _ HB1.out
    have zg := HZ.out _ HB1.out
    go_wp2_with fail
    go_quiet (fail)
    have HB2 := Lib.hid (HB1.out.trans ((below_drewN (Below.refl w1.heap.size w1) nq).mono HB1.out.size))
    have HOF2 := Lib.hid (HOF.out.drewN nq)
    have HOT2 := Lib.hid (HOT.out.drewN nq)
    have hsz2 : w1.heap.size = (w1.drewN nq).heap.size := by simp
    rw [hsz2] at h3 h4
    generalize w1.drewN nq = w2 at *
    clear nq hsz2
    clear e0 e1 e2 e3 e4 zg
    obtain ⟨e0, e1, e2, e3, e4⟩ := HCA.out _ HB2.out
    have zg := HZ.out _ HB2.out
    go_wp2_with fail
    have hg3 : ¬ gf = g := by omega
    have hg4 : ¬ gt = g := by omega
    have HBd := Lib.hid (HB2.out.trans ((show Below w2.heap.size w2 { w2 with drawn := w2.drawn + 1 } from ⟨rfl, rfl, rfl, Nat.le_refl _, fun _ _ => rfl⟩).mono HB2.out.size))
    have HOFd := Lib.hid (HOF2.out.later (show Below w2.heap.size w2 { w2 with drawn := w2.drawn + 1 } from ⟨rfl, rfl, rfl, Nat.le_refl _, fun _ _ => rfl⟩))
    have HOTd := Lib.hid (HOT2.out.later (show Below w2.heap.size w2 { w2 with drawn := w2.drawn + 1 } from ⟨rfl, rfl, rfl, Nat.le_refl _, fun _ _ => rfl⟩))
    have HK : Hid (∀ W', (W' = { w2 with drawn := w2.drawn + 1 } ∨ W' = ({ w2 with drawn := w2.drawn + 1 } : World).setCell ⟨gf, fr, none⟩ (.bool true)) → ∃ X : Keep w2 (fun b _ => b = g), W' = X.w) := Lib.hid (by
      rintro W' (rfl | rfl)
      · exact ⟨⟨{ w2 with drawn := w2.drawn + 1 }, fun b o hb => rfl⟩, rfl⟩
      · exact ⟨⟨({ w2 with drawn := w2.drawn + 1 } : World).setCell ⟨gf, fr, none⟩ (.bool true), fun b o hb => by subst hb; exact (cell_other _ _ _ _ _ _ (.inl hg3)).trans rfl⟩, rfl⟩)
    have hx1 := (HOF2.out.atN (by simp) encB_len fr (by simpa using n1')).c1
    have fx1 := HOF2.out.frozenN (by simp) fr
    rw [Nat.mul_one, List.getElem_replicate] at hx1
    refine wp_region_storeflow 15 13 _ (({ w2 with drawn := w2.drawn + 1 } : World).setCell ⟨gf, fr, none⟩ (.bool true)) (by kernel_rfl) (by kernel_rfl) rfl ?_
    apply Exists.intro
    refine ⟨fun W' hW' => ?_, ?_, ?_⟩
    · obtain ⟨X, hX⟩ := HK.out W' hW'
      subst hX
      rw [← keep1_class X]
      simp only [headsOf, List.take_succ_cons, List.drop_succ_cons, List.take_zero, List.drop_zero, Nat.reduceSub, List.cons_append, List.nil_append]
      repeat go_big_quiet_step (fail)
      exact wpQuiet_nil rfl
    · go_simp
      first | done | rfl
    simp only [Act.put, List.setIfInBounds_toArray, List.set_cons_succ, List.set_cons_zero, List.drop_succ_cons, List.drop_zero]
    generalize ({ w2 with drawn := w2.drawn + 1 } : World) = w3 at *
    clear HK hx1 fx1 e0 e1 e2 e3 e4 zg
    have hs1 := HOFd.out.setN (by simp) encB_len fr (by simpa using n1') 0 (by omega) (.bool true) true rfl
    rw [Nat.mul_one, Nat.add_zero] at hs1
    have hs2 := HOTd.out.other (a := ⟨gf, fr, none⟩) (.bool true) (fun e => by injection e with e; exact hne e.symm)
    have hy1 := (hs2.atN (by simp) encB_len to (by simpa using n2')).c1
    have fy1 := hs2.frozenN (by simp) to
    rw [Nat.mul_one, List.getElem_replicate] at hy1
    have hs3 := hs2.setN (by simp) encB_len to (by simpa using n2') 0 (by omega) (.bool true) true rfl
    rw [Nat.mul_one, Nat.add_zero] at hs3
    have hs4 := hs1.other (a := ⟨gt, to, none⟩) (.bool true) (fun e => by injection e with e; exact hne e)
    have hb5 : Below wr.heap.size wr ((w3.setCell ⟨gf, fr, none⟩ (.bool true)).setCell ⟨gt, to, none⟩ (.bool true)) := (HBd.out.setCell (by dsimp only; omega) _).setCell (by dsimp only; omega) _
    have zt : gt < w3.heap.size := (World.ownsRow.lt HOTd.out _ rfl).2
    have HB5 := Lib.hid hb5
    have HOF5 := Lib.hid hs4
    have HOT5 := Lib.hid hs3
    clear hs1 hs2 hs3 hs4 hb5
    obtain ⟨e0, e1, e2, e3, e4⟩ := HCA.out _ HB5.out
    have zg := HZ.out _ HB5.out
    go_wp2_with fail
    generalize (w3.setCell ⟨gf, fr, none⟩ (.bool true)).setCell ⟨gt, to, none⟩ (.bool true) = w5 at *
    go_quiet (fail)
    have HB6 := Lib.hid (HB5.out.trans ((below_drewN (Below.refl w5.heap.size w5) nq).mono HB5.out.size))
    have HOF6 := Lib.hid (HOF5.out.drewN nq)
    have HOT6 := Lib.hid (HOT5.out.drewN nq)
    generalize w5.drewN nq = w6 at *
    clear nq
    clear e0 e1 e2 e3 e4 zg
    obtain ⟨e0, e1, e2, e3, e4⟩ := HCA.out _ HB6.out
    have zg := HZ.out _ HB6.out
    go_wp2_with fail
    refine (way93 _ _ _ _ l i fr n ((List.replicate n false).set fr true) ((List.replicate n false).set to true) (hll ▸ (HW.out.own.later HB6.out).toSl Ac.encR_len (by omega)) (HS1.out _ _ _ _ (by simp; omega) HOF6.out) (HS1.out _ _ _ _ (by simp; omega) HOT6.out) (by simp) (by simp) (fun z hz => by rw [List.getElem_set]; by_cases e : fr = z <;> simp [e, eq_comm]) n1' (by omega) hn HE'.out HNE'.out HSM.out).mono ?_
    rintro e W7 ⟨vo, out, most, ok, rfl, ho, hb7, hway⟩
    have HB7 := Lib.hid (HB6.out.trans (hb7.mono HB6.out.size))
    have HO := Lib.hid ho
    clear hb7 ho e0 e1 e2 e3 e4 zg
    obtain ⟨e0, e1, e2, e3, e4⟩ := HCA.out _ HB7.out
    have zg := HZ.out _ HB7.out
    rcases hway with ⟨rfl, p, t, rfl, ht, htn, hwy, hnd, hrm, hpl, hmost⟩ | ⟨rfl, rfl, rfl, R, hC, hRu, hRt⟩
    · have hty : to = t := by
        rw [List.getD_eq_getElem?_getD, List.getElem?_set] at ht
        by_cases e : to = t
        · exact e
        · rw [if_neg e] at ht; simp [List.getElem?_replicate, htn] at ht
      subst hty
      have hpos := least_pos l p 3999999996 (by omega) hrm
      have hle := least_le l p 3999999996
      have HRM := Lib.hid (least_room l p 3999999996)
      rw [← hmost] at hpos hle HRM
      have HWY := Lib.hid hwy
      have HND := Lib.hid hnd
      clear hmost hwy hnd hrm ht
      have h0r : 0 ≤ fl - lo := by omega
      by_cases hlt : fl - lo < most
      · by_cases hz : fl - lo = 0
        · have k1 : ((fl - lo) == 0) = true := beq_iff_eq.2 hz
          go_wp2_with fail
          refine bodyPost_ret (results_none rfl _ _ _) rfl ?_
          rw [← HQ.out]
          exact ⟨rfl, l, ⟨HW.out.own.later HB7.out, HW.out.kept.below HB7.out⟩, HM.out.last (R := fun _ => false) HAR.out (.inl (by simpa using hz))⟩
        · have k1 : ((fl - lo) == 0) = false := beq_eq_false_iff_ne.2 hz
          have HFL : Hid (Flow l (pushes l p (fl - lo)) fr to i (fl - lo)) := Lib.hid (Flow.way HWY.out HND.out (fun s hs => by have := HRM.out s hs; omega) (by omega))
          have HPP : Hid (∀ s ∈ p, s.1 < l.length) := Lib.hid (fun s hs => (HWY.out.avoid s hs).1)
          go_wp2_with fail
          refine (push94 W7 B _ l _ vo p (fl - lo) (HW.out.own.later HB7.out) HO.out HPP.out HND.out (by omega) (by omega) HSM.out ⟨by omega, by omega⟩).mono ?_
          rintro e W8 ⟨rfl, ha⟩
          have hpl8 : (pushes l p (fl - lo)).length = l0.length := by rw [pushes_length]; exact hll
          have hat8 := ha.own.atN hpl8 Ac.encR_len i (by omega)
          have har8 : (pushes l p (fl - lo))[i]? = some ⟨fr, to, lo, hi, fl⟩ := by rw [HFL.out.wo i rfl]; exact HAR.out
          rw [(List.getElem?_eq_some_iff.1 har8).2] at hat8
          have ff8 := ha.own.frozenN hpl8
          have zg8 : g < W8.heap.size := (World.ownsRow.lt ha.own _ rfl).2
          have HA8 := Lib.hid (show ArcW w W8 B (.slice (some ⟨g, 0, none⟩) l0.length cap) (pushes l p (fl - lo)) from ⟨ha.own, (HW.out.kept.below HB7.out).trans ha.kept⟩)
          have HAR8 := Lib.hid har8
          clear ha har8 e0 e1 e2 e3 e4 zg
          obtain ⟨e0, e1, e2, e3, e4⟩ := hat8.c5
          clear hat8
          go_wp2_with fail
          go_roundw
          case rel =>
            exact ⟨_, HA8.out.bump hpl8 (i, false) (fl - lo) (by dsimp only; omega) _ (by simp [(List.getElem?_eq_some_iff.1 HAR8.out).2]), HM.out.round HAR.out HFL.out (by omega) (by first | (simp; done) | (simp; omega))⟩
          case measure =>
            refine leastN_lt (m := (roomOf (bump (pushes l p (fl - lo)) (i, false) (fl - lo)) (i, false)).toNat) ⟨_, ⟨HA8.out.bump hpl8 (i, false) (fl - lo) (by dsimp only; omega) _ (by simp [(List.getElem?_eq_some_iff.1 HAR8.out).2]), HM.out.round HAR.out HFL.out (by omega) (by first | (simp; done) | (simp; omega))⟩, rfl⟩ ?_
            rw [roomOf_bump_same _ HAR8.out, (headOf_at HAR8.out false).2.2, ← HWM.out]
            simp
            omega
      · have k1 : (most == 0) = false := beq_eq_false_iff_ne.2 (by omega)
        have HFL : Hid (Flow l (pushes l p (most)) fr to i (most)) := Lib.hid (Flow.way HWY.out HND.out (fun s hs => by have := HRM.out s hs; omega) (by omega))
        have HPP : Hid (∀ s ∈ p, s.1 < l.length) := Lib.hid (fun s hs => (HWY.out.avoid s hs).1)
        go_wp2_with fail
        refine (push94 W7 B _ l _ vo p (most) (HW.out.own.later HB7.out) HO.out HPP.out HND.out (by omega) (by omega) HSM.out ⟨by omega, by omega⟩).mono ?_
        rintro e W8 ⟨rfl, ha⟩
        have hpl8 : (pushes l p (most)).length = l0.length := by rw [pushes_length]; exact hll
        have hat8 := ha.own.atN hpl8 Ac.encR_len i (by omega)
        have har8 : (pushes l p (most))[i]? = some ⟨fr, to, lo, hi, fl⟩ := by rw [HFL.out.wo i rfl]; exact HAR.out
        rw [(List.getElem?_eq_some_iff.1 har8).2] at hat8
        have ff8 := ha.own.frozenN hpl8
        have zg8 : g < W8.heap.size := (World.ownsRow.lt ha.own _ rfl).2
        have HA8 := Lib.hid (show ArcW w W8 B (.slice (some ⟨g, 0, none⟩) l0.length cap) (pushes l p (most)) from ⟨ha.own, (HW.out.kept.below HB7.out).trans ha.kept⟩)
        have HAR8 := Lib.hid har8
        clear ha har8 e0 e1 e2 e3 e4 zg
        obtain ⟨e0, e1, e2, e3, e4⟩ := hat8.c5
        clear hat8
        go_wp2_with fail
        go_roundw
        case rel =>
          exact ⟨_, HA8.out.bump hpl8 (i, false) (most) (by dsimp only; omega) _ (by simp [(List.getElem?_eq_some_iff.1 HAR8.out).2]), HM.out.round HAR.out HFL.out (by omega) (by first | (simp; done) | (simp; omega))⟩
        case measure =>
          refine leastN_lt (m := (roomOf (bump (pushes l p (most)) (i, false) (most)) (i, false)).toNat) ⟨_, ⟨HA8.out.bump hpl8 (i, false) (most) (by dsimp only; omega) _ (by simp [(List.getElem?_eq_some_iff.1 HAR8.out).2]), HM.out.round HAR.out HFL.out (by omega) (by first | (simp; done) | (simp; omega))⟩, rfl⟩ ?_
          rw [roomOf_bump_same _ HAR8.out, (headOf_at HAR8.out false).2.2, ← HWM.out]
          simp
          omega
    · go_wp2_with fail
      refine bodyPost_ret (results_none rfl _ _ _) rfl ?_
      rw [← HQ.out]
      refine ⟨rfl, l, ⟨HW.out.own.later HB7.out, HW.out.kept.below HB7.out⟩, HM.out.last (R := R) HAR.out (.inr ⟨hC, by simpa using hRu, ?_⟩)⟩
      have := hRt to n2' (by simp [List.getD_eq_getElem?_getD, n2'])
      simpa using this
  · obtain ⟨Q, hQ⟩ : ∃ Q : Ending → World → Prop, (fun (e : Ending) (w' : World) => e = .returned (.tuple #[]) ∧ ∃ l', ArcW w w' B (.slice (some ⟨g, 0, none⟩) l0.length cap) l' ∧ PushR l0 l' i true) = Q := ⟨_, rfl⟩
    rw [hQ]
    have HQ := Lib.hid hQ
    clear hQ
    go_wp2_with fail
    go_loopw [] (fun wr => ∃ l, ArcW w wr B (.slice (some ⟨g, 0, none⟩) l0.length cap) l ∧ MidR l0 l) (fun wr => leastN fun m => ∃ l, (ArcW w wr B (.slice (some ⟨g, 0, none⟩) l0.length cap) l ∧ MidR l0 l) ∧ (roomOf l (i, true)).toNat = m)
    case atStart => exact ⟨l0, ⟨HOWN.out, Kept.refl _ _⟩, MidR.refl HF.out⟩
    case round =>
    obtain ⟨⟨l, ⟨hw, hm⟩, hmm⟩, _⟩ := leastN_spec (p := fun m => ∃ l, (ArcW w wr B (.slice (some ⟨g, 0, none⟩) l0.length cap) l ∧ MidR l0 l) ∧ (roomOf l (i, true)).toNat = m) (by obtain ⟨l, h⟩ := hrel; exact ⟨_, l, h, rfl⟩)
    clear hrel
    have hll : l.length = l0.length := shp_length hm.shape
    have HE' := Lib.hid (shp_ends hm.shape.symm HE.out)
    have HNE' := Lib.hid (HNE.out.shp hm.shape)
    have HSM := Lib.hid (small_of (SmallS.shp hm.shape HS.out) hm.fits)
    have hil : i < l.length := by omega
    obtain ⟨ar, har⟩ : ∃ a, l[i]? = some a := ⟨_, List.getElem?_eq_getElem hil⟩
    have hmem := List.mem_of_getElem? har
    have hbd := HSM.out ar hmem
    have hends := HE'.out ar hmem
    have hnoloop := HNE'.out ar hmem
    have hfits := hm.fits ar hmem
    have hat := hw.own.atN hll Ac.encR_len i hil
    rw [(List.getElem?_eq_some_iff.1 har).2] at hat
    obtain ⟨g1, g2, g3⟩ := headOf_at har true
    rw [g3] at hmm
    obtain ⟨fr, to, lo, hi, fl⟩ := ar
    dsimp only at *
    obtain ⟨n1', n2'⟩ := hends
    obtain ⟨q4', q5', q6', q7', q8', q9'⟩ := hbd
    have hgr : g < wr.heap.size := (World.ownsRow.lt hw.own _ rfl).2
    have HWM := Lib.hid hmm
    have HCA := Lib.hid (fun (W : World) (h : Below wr.heap.size wr W) => (hat.below h hgr).c5)
    have HZ := Lib.hid (fun (W : World) (h : Below wr.heap.size wr W) => (Nat.lt_of_lt_of_le hgr h.size : g < W.heap.size))
    have HW := Lib.hid hw
    have HM := Lib.hid hm
    have HAR := Lib.hid har
    clear hw hm hat har hmem hmm
    rw [HPM2.out]
    go_wp2_with fail
    rw [← HPM.out]
    refine wp_mono (p77m_walk wr n hn) ?_
    rintro e a w1 ⟨rfl, gf, gt, z, rfl, of, ot, hne, h1, h2, h3, h4, hb1⟩
    have HB1 := Lib.hid hb1
    have HOF := Lib.hid of
    have HOT := Lib.hid ot
    clear hb1 of ot
    obtain ⟨e0, e1, e2, e3, e4⟩ := HCA.out _ HB1.out
    have zg := HZ.out _ HB1.out
    go_wp2_with fail
    go_quiet (fail)
    have HB2 := Lib.hid (HB1.out.trans ((below_drewN (Below.refl w1.heap.size w1) nq).mono HB1.out.size))
    have HOF2 := Lib.hid (HOF.out.drewN nq)
    have HOT2 := Lib.hid (HOT.out.drewN nq)
    have hsz2 : w1.heap.size = (w1.drewN nq).heap.size := by simp
    rw [hsz2] at h3 h4
    generalize w1.drewN nq = w2 at *
    clear nq hsz2
    clear e0 e1 e2 e3 e4 zg
    obtain ⟨e0, e1, e2, e3, e4⟩ := HCA.out _ HB2.out
    have zg := HZ.out _ HB2.out
    go_wp2_with fail
    have hg3 : ¬ gf = g := by omega
    have hg4 : ¬ gt = g := by omega
    have HBd := Lib.hid (HB2.out.trans ((show Below w2.heap.size w2 { w2 with drawn := w2.drawn + 1 } from ⟨rfl, rfl, rfl, Nat.le_refl _, fun _ _ => rfl⟩).mono HB2.out.size))
    have HOFd := Lib.hid (HOF2.out.later (show Below w2.heap.size w2 { w2 with drawn := w2.drawn + 1 } from ⟨rfl, rfl, rfl, Nat.le_refl _, fun _ _ => rfl⟩))
    have HOTd := Lib.hid (HOT2.out.later (show Below w2.heap.size w2 { w2 with drawn := w2.drawn + 1 } from ⟨rfl, rfl, rfl, Nat.le_refl _, fun _ _ => rfl⟩))
    have HK : Hid (∀ W', (W' = { w2 with drawn := w2.drawn + 1 } ∨ W' = ({ w2 with drawn := w2.drawn + 1 } : World).setCell ⟨gf, to, none⟩ (.bool true)) → ∃ X : Keep w2 (fun b _ => b = g), W' = X.w) := Lib.hid (by
      rintro W' (rfl | rfl)
      · exact ⟨⟨{ w2 with drawn := w2.drawn + 1 }, fun b o hb => rfl⟩, rfl⟩
      · exact ⟨⟨({ w2 with drawn := w2.drawn + 1 } : World).setCell ⟨gf, to, none⟩ (.bool true), fun b o hb => by subst hb; exact (cell_other _ _ _ _ _ _ (.inl hg3)).trans rfl⟩, rfl⟩)
    have hx1 := (HOF2.out.atN (by simp) encB_len to (by simpa using n2')).c1
    have fx1 := HOF2.out.frozenN (by simp) to
    rw [Nat.mul_one, List.getElem_replicate] at hx1
    refine wp_region_storeflow 15 13 _ (({ w2 with drawn := w2.drawn + 1 } : World).setCell ⟨gf, to, none⟩ (.bool true)) (by kernel_rfl) (by kernel_rfl) rfl ?_
    apply Exists.intro
    refine ⟨fun W' hW' => ?_, ?_, ?_⟩
    · obtain ⟨X, hX⟩ := HK.out W' hW'
      subst hX
      rw [← keep1_class X]
      simp only [headsOf, List.take_succ_cons, List.drop_succ_cons, List.take_zero, List.drop_zero, Nat.reduceSub, List.cons_append, List.nil_append]
      repeat go_big_quiet_step (fail)
      exact wpQuiet_nil rfl
    · go_simp
      first | done | rfl
    simp only [Act.put, List.setIfInBounds_toArray, List.set_cons_succ, List.set_cons_zero, List.drop_succ_cons, List.drop_zero]
    generalize ({ w2 with drawn := w2.drawn + 1 } : World) = w3 at *
    clear HK hx1 fx1 e0 e1 e2 e3 e4 zg
    have hs1 := HOFd.out.setN (by simp) encB_len to (by simpa using n2') 0 (by omega) (.bool true) true rfl
    rw [Nat.mul_one, Nat.add_zero] at hs1
    have hs2 := HOTd.out.other (a := ⟨gf, to, none⟩) (.bool true) (fun e => by injection e with e; exact hne e.symm)
    have hy1 := (hs2.atN (by simp) encB_len fr (by simpa using n1')).c1
    have fy1 := hs2.frozenN (by simp) fr
    rw [Nat.mul_one, List.getElem_replicate] at hy1
    have hs3 := hs2.setN (by simp) encB_len fr (by simpa using n1') 0 (by omega) (.bool true) true rfl
    rw [Nat.mul_one, Nat.add_zero] at hs3
    have hs4 := hs1.other (a := ⟨gt, fr, none⟩) (.bool true) (fun e => by injection e with e; exact hne e)
    have hb5 : Below wr.heap.size wr ((w3.setCell ⟨gf, to, none⟩ (.bool true)).setCell ⟨gt, fr, none⟩ (.bool true)) := (HBd.out.setCell (by dsimp only; omega) _).setCell (by dsimp only; omega) _
    have zt : gt < w3.heap.size := (World.ownsRow.lt HOTd.out _ rfl).2
    have HB5 := Lib.hid hb5
    have HOF5 := Lib.hid hs4
    have HOT5 := Lib.hid hs3
    clear hs1 hs2 hs3 hs4 hb5
    obtain ⟨e0, e1, e2, e3, e4⟩ := HCA.out _ HB5.out
    have zg := HZ.out _ HB5.out
    go_wp2_with fail
    refine (way93 _ _ _ _ l i to n ((List.replicate n false).set to true) ((List.replicate n false).set fr true) (hll ▸ (HW.out.own.later HB5.out).toSl Ac.encR_len (by omega)) (HS1.out _ _ _ _ (by simp; omega) HOF5.out) (HS1.out _ _ _ _ (by simp; omega) HOT5.out) (by simp) (by simp) (fun z hz => by rw [List.getElem_set]; by_cases e : to = z <;> simp [e, eq_comm]) n2' (by omega) hn HE'.out HNE'.out HSM.out).mono ?_
    rintro e W7 ⟨vo, out, most, ok, rfl, ho, hb7, hway⟩
    have HB7 := Lib.hid (HB5.out.trans (hb7.mono HB5.out.size))
    have HO := Lib.hid ho
    clear hb7 ho e0 e1 e2 e3 e4 zg
    obtain ⟨e0, e1, e2, e3, e4⟩ := HCA.out _ HB7.out
    have zg := HZ.out _ HB7.out
    rcases hway with ⟨rfl, p, t, rfl, ht, htn, hwy, hnd, hrm, hpl, hmost⟩ | ⟨rfl, rfl, rfl, R, hC, hRu, hRt⟩
    · have hty : fr = t := by
        rw [List.getD_eq_getElem?_getD, List.getElem?_set] at ht
        by_cases e : fr = t
        · exact e
        · rw [if_neg e] at ht; simp [List.getElem?_replicate, htn] at ht
      subst hty
      have hpos := least_pos l p 3999999996 (by omega) hrm
      have hle := least_le l p 3999999996
      have HRM := Lib.hid (least_room l p 3999999996)
      rw [← hmost] at hpos hle HRM
      have HWY := Lib.hid hwy
      have HND := Lib.hid hnd
      clear hmost hwy hnd hrm ht
      have h0r : 0 ≤ hi - fl := by omega
      by_cases hlt : hi - fl < most
      · by_cases hz : hi - fl = 0
        · have k1 : ((hi - fl) == 0) = true := beq_iff_eq.2 hz
          go_wp2_with fail
          refine bodyPost_ret (results_none rfl _ _ _) rfl ?_
          rw [← HQ.out]
          exact ⟨rfl, l, ⟨HW.out.own.later HB7.out, HW.out.kept.below HB7.out⟩, HM.out.last (R := fun _ => false) HAR.out (.inl (by simpa using hz))⟩
        · have k1 : ((hi - fl) == 0) = false := beq_eq_false_iff_ne.2 hz
          have HFL : Hid (Flow l (pushes l p (hi - fl)) to fr i (hi - fl)) := Lib.hid (Flow.way HWY.out HND.out (fun s hs => by have := HRM.out s hs; omega) (by omega))
          have HPP : Hid (∀ s ∈ p, s.1 < l.length) := Lib.hid (fun s hs => (HWY.out.avoid s hs).1)
          go_wp2_with fail
          refine (push94 W7 B _ l _ vo p (hi - fl) (HW.out.own.later HB7.out) HO.out HPP.out HND.out (by omega) (by omega) HSM.out ⟨by omega, by omega⟩).mono ?_
          rintro e W8 ⟨rfl, ha⟩
          have hpl8 : (pushes l p (hi - fl)).length = l0.length := by rw [pushes_length]; exact hll
          have hat8 := ha.own.atN hpl8 Ac.encR_len i (by omega)
          have har8 : (pushes l p (hi - fl))[i]? = some ⟨fr, to, lo, hi, fl⟩ := by rw [HFL.out.wo i rfl]; exact HAR.out
          rw [(List.getElem?_eq_some_iff.1 har8).2] at hat8
          have ff8 := ha.own.frozenN hpl8
          have zg8 : g < W8.heap.size := (World.ownsRow.lt ha.own _ rfl).2
          have HA8 := Lib.hid (show ArcW w W8 B (.slice (some ⟨g, 0, none⟩) l0.length cap) (pushes l p (hi - fl)) from ⟨ha.own, (HW.out.kept.below HB7.out).trans ha.kept⟩)
          have HAR8 := Lib.hid har8
          clear ha har8 e0 e1 e2 e3 e4 zg
          obtain ⟨e0, e1, e2, e3, e4⟩ := hat8.c5
          clear hat8
          go_wp2_with fail
          go_roundw
          case rel =>
            exact ⟨_, HA8.out.bump hpl8 (i, true) (hi - fl) (by dsimp only; omega) _ (by simp [(List.getElem?_eq_some_iff.1 HAR8.out).2]), HM.out.round HAR.out HFL.out (by omega) (by first | (simp; done) | (simp; omega))⟩
          case measure =>
            refine leastN_lt (m := (roomOf (bump (pushes l p (hi - fl)) (i, true) (hi - fl)) (i, true)).toNat) ⟨_, ⟨HA8.out.bump hpl8 (i, true) (hi - fl) (by dsimp only; omega) _ (by simp [(List.getElem?_eq_some_iff.1 HAR8.out).2]), HM.out.round HAR.out HFL.out (by omega) (by first | (simp; done) | (simp; omega))⟩, rfl⟩ ?_
            rw [roomOf_bump_same _ HAR8.out, (headOf_at HAR8.out true).2.2, ← HWM.out]
            simp
            omega
      · have k1 : (most == 0) = false := beq_eq_false_iff_ne.2 (by omega)
        have HFL : Hid (Flow l (pushes l p (most)) to fr i (most)) := Lib.hid (Flow.way HWY.out HND.out (fun s hs => by have := HRM.out s hs; omega) (by omega))
        have HPP : Hid (∀ s ∈ p, s.1 < l.length) := Lib.hid (fun s hs => (HWY.out.avoid s hs).1)
        go_wp2_with fail
        refine (push94 W7 B _ l _ vo p (most) (HW.out.own.later HB7.out) HO.out HPP.out HND.out (by omega) (by omega) HSM.out ⟨by omega, by omega⟩).mono ?_
        rintro e W8 ⟨rfl, ha⟩
        have hpl8 : (pushes l p (most)).length = l0.length := by rw [pushes_length]; exact hll
        have hat8 := ha.own.atN hpl8 Ac.encR_len i (by omega)
        have har8 : (pushes l p (most))[i]? = some ⟨fr, to, lo, hi, fl⟩ := by rw [HFL.out.wo i rfl]; exact HAR.out
        rw [(List.getElem?_eq_some_iff.1 har8).2] at hat8
        have ff8 := ha.own.frozenN hpl8
        have zg8 : g < W8.heap.size := (World.ownsRow.lt ha.own _ rfl).2
        have HA8 := Lib.hid (show ArcW w W8 B (.slice (some ⟨g, 0, none⟩) l0.length cap) (pushes l p (most)) from ⟨ha.own, (HW.out.kept.below HB7.out).trans ha.kept⟩)
        have HAR8 := Lib.hid har8
        clear ha har8 e0 e1 e2 e3 e4 zg
        obtain ⟨e0, e1, e2, e3, e4⟩ := hat8.c5
        clear hat8
        go_wp2_with fail
        go_roundw
        case rel =>
          exact ⟨_, HA8.out.bump hpl8 (i, true) (most) (by dsimp only; omega) _ (by simp [(List.getElem?_eq_some_iff.1 HAR8.out).2]), HM.out.round HAR.out HFL.out (by omega) (by first | (simp; done) | (simp; omega))⟩
        case measure =>
          refine leastN_lt (m := (roomOf (bump (pushes l p (most)) (i, true) (most)) (i, true)).toNat) ⟨_, ⟨HA8.out.bump hpl8 (i, true) (most) (by dsimp only; omega) _ (by simp [(List.getElem?_eq_some_iff.1 HAR8.out).2]), HM.out.round HAR.out HFL.out (by omega) (by first | (simp; done) | (simp; omega))⟩, rfl⟩ ?_
          rw [roomOf_bump_same _ HAR8.out, (headOf_at HAR8.out true).2.2, ← HWM.out]
          simp
          omega
    · go_wp2_with fail
      refine bodyPost_ret (results_none rfl _ _ _) rfl ?_
      rw [← HQ.out]
      refine ⟨rfl, l, ⟨HW.out.own.later HB7.out, HW.out.kept.below HB7.out⟩, HM.out.last (R := R) HAR.out (.inr ⟨hC, by simpa using hRu, ?_⟩)⟩
      have := hRt fr n1' (by simp [List.getD_eq_getElem?_getD, n1'])
      simpa using this
end Go.Proofs.Ytlakcghdehdeiaa

/- Walks: the reference's settle. -/
namespace Go.Proofs.Ytlakcghdehdeiaa
open Go Go.Proofs Go.RowKit

/-- Which of the first k nodes lack. -/
def lackL (n : Nat) (l : List Ac) (k : Nat) : List Bool := (List.range n).map fun v => decide (v < k ∧ exc v l < 0)
theorem lackL_len (n : Nat) (l : List Ac) (k : Nat) : (lackL n l k).length = n := by simp [lackL]
theorem lackL_get (n : Nat) (l : List Ac) (k v : Nat) (h : v < n) : (lackL n l k)[v]'(by rw [lackL_len]; exact h) = decide (v < k ∧ exc v l < 0) := by simp [lackL]
theorem lackL_zero (n : Nat) (l : List Ac) : lackL n l 0 = List.replicate n false := by
  apply List.ext_getElem (by simp [lackL])
  intro i h1 h2
  simp [lackL]
theorem lackL_step (n : Nat) (l : List Ac) (k : Nat) (hk : k < n) : (lackL n l k).set k (decide (exc k l < 0)) = lackL n l (k + 1) := by
  apply List.ext_getElem (by simp [lackL])
  intro v h1 h2
  have hv : v < n := by simpa [lackL] using h2
  rw [lackL_get n l (k + 1) v hv, List.getElem_set]
  by_cases e : k = v
  · subst e; rw [if_pos rfl, decide_eq_decide]; omega
  · rw [if_neg e, lackL_get n l k v hv, decide_eq_decide]; omega
theorem exc_bd2 {l : List Ac} (hl : l.length ≤ 1000) (hs : Small l 1000000000000) (v : Nat) : -1000000000000000 ≤ exc v l ∧ exc v l ≤ 1000000000000000 := by
  have h := tot_bound (fun a => a.at v) 1000000000000 l (fun a ha => by
    have := hs a ha
    unfold Ac.at
    split <;> split <;> omega)
  unfold exc
  omega

set_option maxRecDepth 100000 in
set_option maxHeartbeats 4000000 in
theorem settle74 (w : World) (B : Nat) (v : Value) (l0 : List Ac) (n : Nat) (hown : Own Ac.encR 5 99 w B v l0) (hf : Fits l0) (hs : SmallS l0 1000000000000) (hE : Ends n l0) (hne : NoLoop l0) (hl : l0.length ≤ 1000) (hn : n ≤ 1000) :
    Calls Try.prog 74 #[.int .i64 n, v] w (fun e w' => ∃ ok l', e = .returned (.bool ok) ∧ ArcW w w' B v l' ∧ SetR n l0 l' ok) := by
  obtain ⟨aa, cap, rfl⟩ := hown.shape
  have HOWN := Lib.hid hown
  have HF := Lib.hid hf
  have HS := Lib.hid hs
  have HE := Lib.hid hE
  have HNE := Lib.hid hne
  clear hown hf hs hE hne
  have HS1 := Lib.hid (fun (W : World) (L : List Bool) (q : Value) (b : Nat) (hL : L.length ≤ 1000000000) (h : Own encB 1 4 W b q L) => h.toSl encB_len hL)
  obtain ⟨pm, hpm⟩ : ∃ p, p74m = p := ⟨_, rfl⟩
  have HPM := Lib.hid hpm
  simp only [p74m, Try.f74, Option.getD, codeL, codeR] at hpm
  have HPM2 := Lib.hid hpm
  clear hpm
  go_enter Try.func74, Try.ntmps74
  obtain ⟨Q, hQ⟩ : ∃ Q : Ending → World → Prop, (fun (e : Ending) (w' : World) => ∃ ok l', e = .returned (.bool ok) ∧ ArcW w w' B (.slice aa l0.length cap) l' ∧ SetR n l0 l' ok) = Q := ⟨_, rfl⟩
  rw [hQ]
  have HQ := Lib.hid hQ
  clear hQ
  go_wp2_with fail
  go_loopw [] (fun wr => ∃ l, (ArcW w wr B (.slice aa l0.length cap) l ∧ shp l = shp l0 ∧ Fits l)) (fun wr => leastN fun m => ∃ l, (ArcW w wr B (.slice aa l0.length cap) l ∧ shp l = shp l0 ∧ Fits l) ∧ (over n l).toNat = m)
  case atStart => exact ⟨l0, ⟨HOWN.out, Kept.refl _ _⟩, rfl, HF.out⟩
  case round =>
  obtain ⟨⟨l, ⟨hw, hsh, hft⟩, hmm⟩, _⟩ := leastN_spec (p := fun m => ∃ l, (ArcW w wr B (.slice aa l0.length cap) l ∧ shp l = shp l0 ∧ Fits l) ∧ (over n l).toNat = m) (by obtain ⟨l, h⟩ := hrel; exact ⟨_, l, h, rfl⟩)
  clear hrel
  have hll : l.length = l0.length := shp_length hsh
  have HE' := Lib.hid (shp_ends hsh.symm HE.out)
  have HNE' := Lib.hid (HNE.out.shp hsh)
  have HSM := Lib.hid (small_of (SmallS.shp hsh HS.out) hft)
  have HBD := Lib.hid (fun v => exc_bd2 (l := l) (by omega) HSM.out v)
  have HW := Lib.hid hw
  have HSH := Lib.hid hsh
  have HFT := Lib.hid hft
  have HWM := Lib.hid hmm
  clear hw hsh hft hmm
  rw [HPM2.out]
  go_wp2_with fail
  refine (excess92 wr (.slice aa l0.length cap) l n (hll ▸ HW.out.own.toSl Ac.encR_len (by omega)) (by omega) hn HE'.out HNE'.out HSM.out).mono ?_
  rintro e w1 ⟨vx, rfl, hox, hb1⟩
  obtain ⟨ax, cx, hvx⟩ := hox.shape
  rw [excL_len] at hvx
  subst hvx
  have HX1 := Lib.hid hox
  have HB1 := Lib.hid hb1
  clear hox hb1
  go_wp2_with fail
  rw [← HPM.out]
  refine wp_mono (p74m_walk w1 n hn) ?_
  rintro e a w2 ⟨rfl, gf, gt, z, rfl, of, ot, hne, h1, h2, h3, h4, hb2⟩
  have HB2 := Lib.hid (HB1.out.trans (hb2.mono HB1.out.size))
  have HX2 := Lib.hid (HX1.out.later hb2)
  have HOF2 := Lib.hid of
  have HOT2 := Lib.hid (show Own encB 1 4 w2 w1.heap.size (.slice (some ⟨gt, 0, none⟩) n n) (lackL n l 0) by rw [lackL_zero]; exact ot)
  have hsz1 : wr.heap.size ≤ w1.heap.size := HB1.out.size
  have HXL := Lib.hid (show ∀ k, (Value.slice ax n cx).ownBlock = some k → wr.heap.size ≤ k ∧ k < w1.heap.size from fun k hk => World.ownsRow.lt HX1.out k hk)
  clear hb2 of ot HX1
  generalize w1.heap.size = S1 at *
  go_wp2_with fail
  go_loopw [9, 8] (fun i at' wq => ∃ (k : Nat) (q : Int), k ≤ n ∧ i = .int .i64 k ∧ at' = .int .i64 q ∧ Below wr.heap.size wr wq ∧ gf < wq.heap.size ∧ gt < wq.heap.size ∧ Own encI 1 3 wq wr.heap.size (.slice ax n cx) (excL n l) ∧ Own encB 1 4 wq S1 (.slice (some ⟨gf, 0, none⟩) n n) (List.replicate n false) ∧ Own encB 1 4 wq S1 (.slice (some ⟨gt, 0, none⟩) n n) (lackL n l k) ∧
    ((q = -1 ∧ ∀ v, v < k → exc v l ≤ 0) ∨ (∃ u : Nat, q = u ∧ u < k ∧ 0 < exc u l))) (fun i _ _ => n - (intOf i).toNat)
  case atStart => exact ⟨0, -1, by omega, rfl, rfl, HB2.out, h3, h4, HX2.out, HOF2.out, HOT2.out, .inl ⟨rfl, fun v hv => by omega⟩⟩
  case round =>
    clear HB2 HX2 HOF2 HOT2 h3 h4
    obtain ⟨k, q, hk, rfl, rfl, hbq, h3, h4, hox, hof, hot, hor⟩ := hrel
    by_cases hlt : k < n
    · obtain ⟨gx, cx', e1, hgx, hgxs⟩ := hox.form (by rw [excL_len]; omega)
      rw [excL_len] at e1
      injection e1 with e1 e2 e3
      subst e1
      clear e2 e3
      have hx := (hox.atN (excL_len n l) encI_len k (by rw [excL_len]; exact hlt)).c1
      rw [Nat.mul_one, excL_get n l k hlt] at hx
      have htc := (hot.atN (lackL_len n l k) encB_len k (by rw [lackL_len]; exact hlt)).c1
      rw [Nat.mul_one] at htc
      have htf := hot.frozenN (lackL_len n l k) k
      have hgx1 := (HXL.out gx rfl).2
      have hne1 : ¬ gx = gt := by omega
      have hne2 : ¬ gt = gx := by omega
      have hst := hot.setN (lackL_len n l k) encB_len k (by rw [lackL_len]; exact hlt) 0 (by omega) (.bool (decide (exc k l < 0))) (decide (exc k l < 0)) rfl
      rw [Nat.mul_one, Nat.add_zero, lackL_step n l k hlt] at hst
      have HST := Lib.hid hst
      have HBQ := Lib.hid (hbq.setCell (p := ⟨gt, k, none⟩) (by dsimp only; omega) (.bool (decide (exc k l < 0))))
      have HOX := Lib.hid (hox.other (a := ⟨gt, k, none⟩) (.bool (decide (exc k l < 0))) (fun e => by injection e with e; exact hne1 e))
      have HOF := Lib.hid (hof.other (a := ⟨gt, k, none⟩) (.bool (decide (exc k l < 0))) (fun e => by injection e with e; exact hne e))
      have HOR := Lib.hid hor
      clear hst hbq hox hof hot hor
      obtain ⟨x, hxe⟩ : ∃ x, exc k l = x := ⟨_, rfl⟩
      have hbd := HBD.out k
      have HXE := Lib.hid hxe
      rw [hxe] at hx hbd HST HBQ HOX HOF
      clear hxe
      by_cases hpos : 0 < x
      · have hb : decide (0 < x) = true := decide_eq_true hpos
        go_wp2_with fail
        go_roundw
        case rel => exact ⟨k + 1, (k : Int), by omega, by go_num, rfl, HBQ.out, by simpa using h3, by simpa using h4, HOX.out, HOF.out, HST.out, .inr ⟨k, rfl, by omega, by rw [HXE.out]; exact hpos⟩⟩
        case measure => simp [intOf]; omega
      · have hb : decide (0 < x) = false := decide_eq_false hpos
        go_wp2_with fail
        go_roundw
        case rel =>
          refine ⟨k + 1, q, by omega, by go_num, rfl, HBQ.out, by simpa using h3, by simpa using h4, HOX.out, HOF.out, HST.out, HOR.out.imp (fun ⟨a, b⟩ => ⟨a, fun v hv => ?_⟩) (fun ⟨u, a, b, c⟩ => ⟨u, a, by omega, c⟩)⟩
          by_cases e : v = k
          · subst e; rw [HXE.out]; omega
          · exact b v (by omega)
        case measure => simp [intOf]; omega
    · obtain rfl : n = k := by omega
      have HBQ := Lib.hid hbq
      have HOX := Lib.hid hox
      have HOF := Lib.hid hof
      have HOT := Lib.hid hot
      obtain ⟨rfl, hall⟩ | ⟨u, rfl, hu, hpos⟩ := hor
      · have HALL := Lib.hid hall
        clear hbq hox hof hot hall
        go_wp2_with fail
        rw [← HQ.out]
        exact ⟨true, l, rfl, HW.out.later HBQ.out, setR_yes HSH.out HE'.out HFT.out HALL.out⟩
      · have hfc := (hof.atN (by simp) encB_len u (by simpa using hu)).c1
        have hff := hof.frozenN (by simp) u
        rw [Nat.mul_one] at hfc
        have hsf := hof.setN (by simp) encB_len u (by simpa using hu) 0 (by omega) (.bool true) true rfl
        rw [Nat.mul_one, Nat.add_zero] at hsf
        have HOF3 := Lib.hid hsf
        have HBQ3 := Lib.hid (hbq.setCell (p := ⟨gf, u, none⟩) (by dsimp only; omega) (.bool true))
        have HOX3 := Lib.hid (hox.other (a := ⟨gf, u, none⟩) (.bool true) (fun e => by have := (HXL.out gf e).2; omega))
        have HOT3 := Lib.hid (hot.other (a := ⟨gf, u, none⟩) (.bool true) (fun e => by injection e with e; exact hne e.symm))
        clear hbq hox hof hot hsf HBQ HOX HOF HOT
        go_wp2_with fail
        refine (way93 _ _ _ _ l (-1) u n ((List.replicate n false).set u true) (lackL n l n) (hll ▸ (HW.out.own.later HBQ3.out).toSl Ac.encR_len (by omega)) (HS1.out _ _ _ _ (by simp; omega) HOF3.out) (HS1.out _ _ _ _ (by rw [lackL_len]; omega) HOT3.out) (by simp) (lackL_len n l n) (fun z hz => by rw [List.getElem_set]; by_cases e : u = z <;> simp [e, eq_comm]) hu (by omega) hn HE'.out HNE'.out HSM.out).mono ?_
        rintro e w7 ⟨vo, out, most, ok, rfl, ho, hb7, hway⟩
        have HB7 := Lib.hid (HBQ3.out.trans (hb7.mono HBQ3.out.size))
        have HO := Lib.hid ho
        have HOX7 := Lib.hid (HOX3.out.later hb7)
        clear hb7 ho hfc hff
        rcases hway with ⟨rfl, p, t, rfl, ht, htn, hwy, hnd, hrm, hpl, hmost⟩ | ⟨rfl, rfl, rfl, R, hC, hRu, hRt⟩
        · have htx : exc t l < 0 := by
            rw [List.getD_eq_getElem?_getD, List.getElem?_eq_getElem (by rw [lackL_len]; exact htn), lackL_get n l n t htn] at ht
            simpa [htn] using ht
          have hpos2 := least_pos l p 3999999996 (by omega) hrm
          have hle := least_le l p 3999999996
          have HRM := Lib.hid (least_room l p 3999999996)
          rw [← hmost] at hpos2 hle HRM
          have HND := Lib.hid hnd
          have HWY := Lib.hid hwy
          clear hmost hnd hrm ht
          cases p with
          | nil =>
            have : t = u := hwy
            subst this
            omega
          | cons s p =>
            obtain ⟨hs1, _, hs2, _⟩ := hwy
            obtain ⟨i, f⟩ := s
            dsimp only at hs1
            obtain ⟨g, cap', e1, hg, hgs⟩ := HW.out.own.form (by omega)
            injection e1 with e1 e2 e3
            subst e1
            clear e2 e3
            have hz7 : g < w7.heap.size := Nat.lt_of_lt_of_le hgs HB7.out.size
            have hf0 := ((HW.out.own.later HB7.out).atN hll Ac.encR_len 0 (by omega)).c5.1
            rw [Nat.zero_mul] at hf0
            obtain ⟨⟨fr, to, lo, hi, fl⟩, har⟩ : ∃ a, l[i]? = some a := ⟨_, List.getElem?_eq_getElem hs1⟩
            have hat := (HW.out.own.later HB7.out).atN hll Ac.encR_len i hs1
            rw [(List.getElem?_eq_some_iff.1 har).2] at hat
            obtain ⟨e0, e1, e2, e3, e4⟩ := hat.c5
            obtain ⟨go', capo, hvo, hgo, hgos⟩ := HO.out.form (by simp)
            simp only [List.length_map, List.length_cons] at hvo
            have hw0 := ((hvo ▸ HO.out).atN (by simp) encI_len 0 (by simp)).c1
            rw [Nat.zero_mul] at hw0
            replace hw0 : w7.cell? ⟨go', 0, none⟩ = some (.int .i64 (code (i, f))) := hw0
            subst hvo
            obtain ⟨gx, cx', ex, hgx, hgxs⟩ := HOX7.out.form (by rw [excL_len]; omega)
            rw [excL_len] at ex
            injection ex with ex ex2 ex3
            subst ex
            clear ex2 ex3
            have hxu := (HOX7.out.atN (excL_len n l) encI_len u (by rw [excL_len]; exact hu)).c1
            rw [Nat.mul_one, excL_get n l u hu] at hxu
            have hxt := (HOX7.out.atN (excL_len n l) encI_len t (by rw [excL_len]; exact htn)).c1
            rw [Nat.mul_one, excL_get n l t htn] at hxt
            have hbu := HBD.out u
            have hbt := HBD.out t
            have hll2 : 0 < l0.length := by omega
            cases f
            · rw [code_bwd] at hw0
              have kk : -(-(i : Int) - 1) - 1 = i := by omega
              have kd2 : decide (0 < -(i : Int) - 1) = false := decide_eq_false (by omega)
              have hend : fr = t := by rw [← hs2, (headOf_at har false).1]; rfl
              subst hend
              go_wp2_with fail
              refine wp_region_head_drew 14 (by kernel_rfl) (by kernel_rfl) ?_
              simp only [List.take_succ_cons, List.take_zero, List.drop_succ_cons, List.drop_zero]
              repeat go_big_quiet_step (fail)
              refine wpQuiet_nil ?_
              rintro _ ⟨nq, rfl⟩
              have HB8 := Lib.hid (HB7.out.trans ((below_drewN (Below.refl w7.heap.size w7) nq).mono HB7.out.size))
              have HO8 := Lib.hid (HO.out.drewN nq)
              generalize w7.drewN nq = w8 at *
              clear nq
              obtain ⟨m1, hm1⟩ : ∃ b, (if -exc fr l < exc u l then -exc fr l else exc u l) = b := ⟨_, rfl⟩
              have hm2 : 0 < m1 ∧ m1 ≤ exc u l ∧ m1 ≤ -exc fr l := by
                rw [← hm1]
                split <;> omega
              rw [hm1]
              obtain ⟨by', hby⟩ : ∃ b, (if m1 < most then m1 else most) = b := ⟨_, rfl⟩
              have hby1 : 0 < by' ∧ by' ≤ most ∧ by' ≤ exc u l ∧ by' ≤ -exc fr l := by
                rw [← hby]
                split <;> omega
              rw [hby]
              obtain ⟨y1, y2, y3, y4⟩ := hby1
              clear hby hm1 hm2
              have HFL : Hid (Flow l (pushes l ((i, false) :: p) by') u fr (-1) by') := Lib.hid (Flow.way HWY.out HND.out (fun s hs => by have := HRM.out s hs; omega) (by omega))
              go_wp2_with fail
              refine (push94 w8 B _ l _ _ ((i, false) :: p) by' (HW.out.own.later HB8.out) HO8.out (fun s hs => (HWY.out.avoid s hs).1) HND.out (by omega) (by omega) HSM.out ⟨by omega, by omega⟩).mono ?_
              rintro e w9 ⟨rfl, ha⟩
              have HA9 := Lib.hid (show ArcW w w9 B (.slice (some ⟨g, 0, none⟩) l0.length cap) (pushes l ((i, false) :: p) by') from ⟨ha.own, (HW.out.kept.below HB8.out).trans ha.kept⟩)
              clear ha
              go_wp2_with fail
              go_roundw
              case rel => exact ⟨_, HA9.out, HFL.out.shape.trans HSH.out, HFL.out.fits HFT.out⟩
              case measure =>
                refine leastN_lt (m := (over n (pushes l ((i, false) :: p) by')).toNat) ⟨_, ⟨HA9.out, HFL.out.shape.trans HSH.out, HFL.out.fits HFT.out⟩, rfl⟩ ?_
                rw [← HWM.out]
                have h1 := over_less HFL.out hu (fun e => by subst e; omega) y1 y3 y4
                have h2 := over_nonneg n (pushes l ((i, false) :: p) by')
                omega
            · rw [code_fwd] at hw0
              have kk : (i : Int) + 1 - 1 = i := by omega
              have kd2 : decide (0 < (i : Int) + 1) = true := decide_eq_true (by omega)
              have hend : to = t := by rw [← hs2, (headOf_at har true).1]; rfl
              subst hend
              go_wp2_with fail
              refine wp_region_head_drew 14 (by kernel_rfl) (by kernel_rfl) ?_
              simp only [List.take_succ_cons, List.take_zero, List.drop_succ_cons, List.drop_zero]
              repeat go_big_quiet_step (fail)
              refine wpQuiet_nil ?_
              rintro _ ⟨nq, rfl⟩
              have HB8 := Lib.hid (HB7.out.trans ((below_drewN (Below.refl w7.heap.size w7) nq).mono HB7.out.size))
              have HO8 := Lib.hid (HO.out.drewN nq)
              generalize w7.drewN nq = w8 at *
              clear nq
              obtain ⟨m1, hm1⟩ : ∃ b, (if -exc to l < exc u l then -exc to l else exc u l) = b := ⟨_, rfl⟩
              have hm2 : 0 < m1 ∧ m1 ≤ exc u l ∧ m1 ≤ -exc to l := by
                rw [← hm1]
                split <;> omega
              rw [hm1]
              obtain ⟨by', hby⟩ : ∃ b, (if m1 < most then m1 else most) = b := ⟨_, rfl⟩
              have hby1 : 0 < by' ∧ by' ≤ most ∧ by' ≤ exc u l ∧ by' ≤ -exc to l := by
                rw [← hby]
                split <;> omega
              rw [hby]
              obtain ⟨y1, y2, y3, y4⟩ := hby1
              clear hby hm1 hm2
              have HFL : Hid (Flow l (pushes l ((i, true) :: p) by') u to (-1) by') := Lib.hid (Flow.way HWY.out HND.out (fun s hs => by have := HRM.out s hs; omega) (by omega))
              go_wp2_with fail
              refine (push94 w8 B _ l _ _ ((i, true) :: p) by' (HW.out.own.later HB8.out) HO8.out (fun s hs => (HWY.out.avoid s hs).1) HND.out (by omega) (by omega) HSM.out ⟨by omega, by omega⟩).mono ?_
              rintro e w9 ⟨rfl, ha⟩
              have HA9 := Lib.hid (show ArcW w w9 B (.slice (some ⟨g, 0, none⟩) l0.length cap) (pushes l ((i, true) :: p) by') from ⟨ha.own, (HW.out.kept.below HB8.out).trans ha.kept⟩)
              clear ha
              go_wp2_with fail
              go_roundw
              case rel => exact ⟨_, HA9.out, HFL.out.shape.trans HSH.out, HFL.out.fits HFT.out⟩
              case measure =>
                refine leastN_lt (m := (over n (pushes l ((i, true) :: p) by')).toNat) ⟨_, ⟨HA9.out, HFL.out.shape.trans HSH.out, HFL.out.fits HFT.out⟩, rfl⟩ ?_
                rw [← HWM.out]
                have h1 := over_less HFL.out hu (fun e => by subst e; omega) y1 y3 y4
                have h2 := over_nonneg n (pushes l ((i, true) :: p) by')
                omega
        · have HC := Lib.hid hC
          have HRT := Lib.hid hRt
          clear hC hRt
          go_wp2_with fail
          rw [← HQ.out]
          refine ⟨false, l, rfl, HW.out.later HB7.out, setR_no HSH.out HE'.out HFT.out HC.out hu hRu hpos (fun v hv hx => HRT.out v hv ?_)⟩
          rw [List.getD_eq_getElem?_getD, List.getElem?_eq_getElem (by rw [lackL_len]; exact hv), lackL_get n l n v hv]
          simp [hv, hx]
end Go.Proofs.Ytlakcghdehdeiaa

/- Walks: the reference's IsConsistent, Tighten. -/
namespace Go.Proofs.Ytlakcghdehdeiaa
open Go Go.Proofs Go.RowKit

theorem arcs_fits {b : Bk} (hok : OkBk b) : Fits (arcsOf b) := fun a ha => by have := arcs_props hok ha; omega
theorem arcs_noLoop {b : Bk} (hok : OkBk b) : NoLoop (arcsOf b) := fun a ha => (arcs_props hok ha).2.2.1
theorem arcs_short {b : Bk} (hok : OkBk b) : (arcsOf b).length ≤ 160 := by rw [arcs_len]; have := hok.ts128; have := hok.st32; omega
theorem setR_con {b : Bk} {l : List Ac} {ok : Bool} (h : SetR (b.st.length + 1) (arcsOf b) l ok) : ok = true ↔ Con b := by
  cases ok with
  | true => exact ⟨fun _ => ⟨l, h.shape, h.yes rfl⟩, fun _ => rfl⟩
  | false => exact ⟨fun h => (by cases h), fun ⟨l2, h1, h2⟩ => absurd h2 (h.no rfl l2 h1)⟩

set_option maxRecDepth 100000 in
set_option maxHeartbeats 1000000 in
theorem isCon31 (w : World) (v1 v2 : Value) (b : Bk) (hok : OkBk b) (hv : BkR w w.heap.size v1 v2 b) (R : Bool) (hR : R = true ↔ Con b) : Calls Try.prog 31 #[.agg #[v1, v2]] w (Ret (.bool R) w) := by
  have HC := Lib.hid (fun (w1 : World) (hb : Below w.heap.size w w1) => arcs75 w1 v1 v2 b hok (hv.later hb))
  have HOK := Lib.hid hok
  have h32 := hok.st32
  obtain ⟨⟨a1, n1, hv1, hl1, hA1⟩, ⟨a2, n2, hv2, hl2, hA2⟩, hids⟩ := hv
  subst hv1 hv2
  clear hA1 hA2 hids hok
  obtain ⟨n, hn⟩ : ∃ n, b.st.length + 1 = n := ⟨_, rfl⟩
  have hnc : (b.st.length : Int) + 1 = n := by omega
  go_enter Try.func31, Try.ntmps31
  go_wp2_with fail
  have hbx := Box.new w #[.slice a1 b.st.length n1, .slice a2 b.ts.length n2] 38
  have hbl : Below w.heap.size w (w.alloc (.cells #[.slice a1 b.st.length n1, .slice a2 b.ts.length n2] 38)) := (Below.refl _ _).alloc (Nat.le_refl _) _
  generalize w.alloc (.cells #[.slice a1 b.st.length n1, .slice a2 b.ts.length n2] 38) = w1 at *
  have HBL := Lib.hid hbl
  have HBX := Lib.hid hbx
  have HK : Hid (∀ W', (W' = { w1 with drawn := w1.drawn + 1 } ∨ ∃ v, Own Ac.encR 5 99 W' (w.heap.size + 1) v (arcsOf b) ∧ Below w1.heap.size w1 W') → ∃ X : Keep w1 (fun b _ => b = w.heap.size), W' = X.w) := Lib.hid (by
    rintro W' (rfl | ⟨v, _, hb⟩)
    · exact ⟨⟨{ w1 with drawn := w1.drawn + 1 }, fun b o hb => rfl⟩, rfl⟩
    · exact ⟨⟨W', fun b o hbb => (bcell hb).1 b o (by rw [hbb]; exact hbx.lt)⟩, rfl⟩)
  obtain ⟨d0, d1, df, dz⟩ := hbx.v2
  clear hbl hbx
  refine wp_region_callflow 6 5 _ 75 (fun v W' => Own Ac.encR 5 99 W' (w.heap.size + 1) v (arcsOf b) ∧ Below w1.heap.size w1 W') (by kernel_rfl) (by kernel_rfl) rfl ?_
  apply Exists.intro
  refine ⟨fun W' hW' => ?_, ?_⟩
  · obtain ⟨X, hX⟩ := HK.out W' hW'
    subst hX
    rw [← keep1_class X]
    simp only [headsOf, List.take_succ_cons, List.drop_succ_cons, List.take_zero, List.drop_zero, Nat.reduceSub, List.cons_append, List.nil_append]
    repeat go_big_quiet_step (fail)
    exact wpQuiet_nil rfl
  apply Exists.intro
  refine ⟨?_, ?_, ?_⟩
  · go_simp
    first | done | rfl
  · refine (HC.out { w1 with drawn := w1.drawn + 1 } (HBL.out.trans (show Below w.heap.size w1 { w1 with drawn := w1.drawn + 1 } from ⟨rfl, rfl, rfl, Nat.le_refl _, fun _ _ => rfl⟩))).mono ?_
    rintro e w2 ⟨v, rfl, ho, hb⟩
    exact ⟨_, rfl, ho.lower (by have := HBX.out.lt; exact this), (show Below w1.heap.size w1 { w1 with drawn := w1.drawn + 1 } from ⟨rfl, rfl, rfl, Nat.le_refl _, fun _ _ => rfl⟩).trans hb⟩
  · rintro v w2 ⟨ho, hb⟩
    have HO := Lib.hid ho
    have hsz := hb.size
    have HB := Lib.hid (HBL.out.trans (hb.mono HBL.out.size))
    clear ho hb
    simp only [Act.put, List.setIfInBounds_toArray, List.set_cons_succ, List.set_cons_zero, List.drop_succ_cons, List.drop_zero]
    go_wp2_with fail
    refine (settle74 w2 _ v (arcsOf b) n HO.out (arcs_fits HOK.out) (smallS_arcs HOK.out) (hn ▸ arcs_ends HOK.out) (arcs_noLoop HOK.out) (by have := arcs_short HOK.out; omega) (by omega)).mono ?_
    rintro e w3 ⟨ok, l, rfl, ha, hs⟩
    have hok : ok = R := by
      have h1 := setR_con (hn ▸ hs)
      cases ok <;> cases R <;> simp_all
    subst hok
    have HB3 := Lib.hid (HB.out.trans ((ha.kept.toBelow (B := w.heap.size + 1) (by have := HBX.out.lt; omega) (fun k hk => HO.out.lt' k hk)).mono (by omega)))
    clear ha hs
    go_wp2_with fail
    go_ret
    exact ⟨rfl, HB3.out⟩

/-- What the walk of Tighten knows between two tickets. -/
structure TiR (w wr : World) (b : Bk) (n : Nat) (v vo : Value) (xs : List Value) (rs : List Rg) : Prop where
  arcs : ∃ l, Own Ac.encR 5 99 wr (w.heap.size + 1) v l ∧ shp l = shp (arcsOf b) ∧ Circ n l
  out : Own Rg.enc 2 24 wr (w.heap.size + 1) vo rs
  box : Box wr w.heap.size 38 xs
  below : Below w.heap.size w wr
  tight : ∀ i r, rs[i]? = some r → Extent n (arcsOf b) i r.lo r.hi
theorem smallS_of_arcs {b : Bk} (hok : OkBk b) {l : List Ac} (h : shp l = shp (arcsOf b)) : SmallS l 1000000000000 := SmallS.shp h (smallS_arcs hok)
theorem arcW_below {w wr w' : World} {B : Nat} {v : Value} {l l' : List Ac} {S : Nat} (h : ArcW wr w' B v l') (ho : Own Ac.encR 5 99 wr B v l) (hb : Below S w wr) (hS : S ≤ w.heap.size) (hB : S ≤ B) : Below S w w' :=
  hb.trans ((h.kept.toBelow (B := S) (Nat.le_trans hS hb.size) (fun k hk => Nat.le_trans hB (ho.lt' k hk))))

set_option maxRecDepth 100000 in
set_option maxHeartbeats 1000000 in
theorem tighten38 (w : World) (v1 v2 : Value) (b : Bk) (hok : OkBk b) (hv : BkR w w.heap.size v1 v2 b) (hcon : Con b) :
    Calls Try.prog 38 #[.agg #[v1, v2]] w (fun e w' => ∃ v rs, e = .returned v ∧ Sl Rg.enc 2 w' w'.heap.size v rs ∧ rs.length = b.ts.length ∧ Tight b rs ∧ Below w.heap.size w w') := by
  have HC := Lib.hid (fun (w1 : World) (hb : Below w.heap.size w w1) => arcs75 w1 v1 v2 b hok (hv.later hb))
  have HOK := Lib.hid hok
  have HCON := Lib.hid hcon
  have h32 := hok.st32
  have h128 := hok.ts128
  obtain ⟨⟨a1, n1, hv1, hl1, hA1⟩, ⟨a2, n2, hv2, hl2, hA2⟩, hids⟩ := hv
  subst hv1 hv2
  clear hA1 hA2 hids hok hcon
  obtain ⟨n, hn⟩ : ∃ n, b.st.length + 1 = n := ⟨_, rfl⟩
  have hnc : (b.st.length : Int) + 1 = n := by omega
  go_enter Try.func38, Try.ntmps38
  go_wp2_with fail
  have hbx := Box.new w #[.slice a1 b.st.length n1, .slice a2 b.ts.length n2] 38
  have hbl : Below w.heap.size w (w.alloc (.cells #[.slice a1 b.st.length n1, .slice a2 b.ts.length n2] 38)) := (Below.refl _ _).alloc (Nat.le_refl _) _
  generalize w.alloc (.cells #[.slice a1 b.st.length n1, .slice a2 b.ts.length n2] 38) = w1 at *
  have HBL := Lib.hid hbl
  have HBX := Lib.hid hbx
  have hz1 := hbx.lt
  clear hbl hbx
  refine (HC.out w1 HBL.out).mono ?_
  rintro e w2 ⟨v, rfl, ho, hb⟩
  have HO2 := Lib.hid (ho.lower (show w.heap.size + 1 ≤ w1.heap.size from hz1))
  have HB2 := Lib.hid (HBL.out.trans (hb.mono HBL.out.size))
  have HX2 := Lib.hid (HBX.out.later hb)
  have hz2 : w.heap.size + 1 ≤ w2.heap.size := by have := hb.size; omega
  clear ho hb
  go_wp2_with fail
  refine (settle74 w2 _ v (arcsOf b) n HO2.out (arcs_fits HOK.out) (smallS_arcs HOK.out) (hn ▸ arcs_ends HOK.out) (arcs_noLoop HOK.out) (by have := arcs_short HOK.out; omega) (by omega)).mono ?_
  rintro e w3 ⟨ok, l, rfl, ha, hs⟩
  have hok : ok = true := (setR_con (hn ▸ hs)).2 HCON.out
  subst hok
  have HTI : Hid (TiR w w3 b n v (.slice none 0 0) [.slice a1 b.st.length n1, .slice a2 b.ts.length n2] []) := Lib.hid ⟨⟨l, ha.own, hs.shape, hs.yes rfl⟩, Own.nil _ _ _ _ _, HX2.out.keeps ha.kept (fun hk => by have := HO2.out.lt' _ hk; omega), arcW_below ha HO2.out HB2.out (Nat.le_refl _) (by omega), fun i r h => by simp at h⟩
  clear ha hs HX2 HB2 HO2
  have hx3 := HTI.out.box
  obtain ⟨d0, d1, df, dz⟩ := hx3.v2
  clear hx3
  go_wp2_with fail
  go_loopw [6, 5] (fun i o wr => ∃ (k : Nat) (vo : Value) (rs : List Rg), k ≤ b.ts.length ∧ i = .int .i64 k ∧ o = vo ∧ rs.length = k ∧ TiR w wr b n v vo [.slice a1 b.st.length n1, .slice a2 b.ts.length n2] rs) (fun i _ _ => b.ts.length - (intOf i).toNat)
  case atStart => exact ⟨0, _, [], by omega, rfl, rfl, rfl, HTI.out⟩
  case round =>
    clear HTI d0 d1 df dz
    obtain ⟨k, vo, rs, hk, rfl, rfl, hrl, ht⟩ := hrel
    obtain ⟨d0, d1, df, dz⟩ := ht.box.v2
    have HT := Lib.hid ht
    by_cases hlt : k < b.ts.length
    · obtain ⟨l, ho, hsh, hc⟩ := ht.arcs
      have hll : l.length = (arcsOf b).length := shp_length hsh
      have hkl : k < l.length := by rw [hll, arcs_len]; omega
      have hl160 : l.length ≤ 160 := by rw [hll]; exact arcs_short HOK.out
      clear hll
      have HE := Lib.hid (shp_ends hsh.symm (hn ▸ arcs_ends HOK.out : Ends n (arcsOf b)))
      have HNE := Lib.hid ((arcs_noLoop HOK.out).shp hsh)
      have HSS := Lib.hid (smallS_of_arcs HOK.out hsh)
      obtain ⟨g, cap, e1, hg, hgs⟩ := ho.form (by omega)
      subst e1
      have HO := Lib.hid ho
      have HSH := Lib.hid hsh
      have HCC := Lib.hid hc
      clear ho hsh hc ht
      go_wp2_with fail
      refine (extreme77 wr _ _ l n k false HO.out HCC.out.fits HSS.out HE.out HNE.out hkl (by omega) (by omega)).mono ?_
      rintro e wa ⟨rfl, l1, ha, hp1⟩
      have hl1 : l1.length = l.length := shp_length hp1.shape
      have hat1 := (ha.own.atN hl1 Ac.encR_len k (by omega)).c5
      obtain ⟨_, _, _, _, f1⟩ := hat1
      have zg1 := (World.ownsRow.lt ha.own _ rfl).2
      have HAA := Lib.hid ha
      have HP1 := Lib.hid hp1
      clear ha hp1
      obtain ⟨lo, hlo⟩ : ∃ x, l1[k].fl = x := ⟨_, rfl⟩
      rw [hlo] at f1
      have HLO := Lib.hid hlo
      clear hlo
      go_wp2_with fail
      refine (extreme77 wa _ _ l1 n k true HAA.out.own HP1.out.fits (SmallS.shp HP1.out.shape HSS.out) (shp_ends HP1.out.shape.symm HE.out) (HNE.out.shp HP1.out.shape) (by omega) (by omega) (by omega)).mono ?_
      rintro e wb ⟨rfl, l2, hb', hp2⟩
      have hl2 : l2.length = l.length := (shp_length hp2.shape).trans hl1
      obtain ⟨_, _, _, _, f2⟩ := (hb'.own.atN hl2 Ac.encR_len k (by omega)).c5
      have zg2 := (World.ownsRow.lt hb'.own _ rfl).2
      obtain ⟨hi, hhi⟩ : ∃ x, l2[k].fl = x := ⟨_, rfl⟩
      rw [hhi] at f2
      have hext : Extent n (arcsOf b) k lo hi := by
        have h1 := extent_of HP1.out hp2 HE.out HCC.out (List.getElem?_eq_getElem (by omega)) (List.getElem?_eq_getElem (by omega))
        rw [HLO.out, hhi] at h1
        exact h1.shp HSH.out
      have HEX := Lib.hid hext
      have hdis := HT.out.out.two_types HO.out (by decide)
      have ho2 := ((HT.out.out.keeps HAA.out.kept hdis).keeps hb'.kept hdis)
      have hx2 := ((HT.out.box.keeps HAA.out.kept (fun hk => by have := HO.out.lt' _ hk; omega)).keeps hb'.kept (fun hk => by have := HO.out.lt' _ hk; omega))
      have hbl2 := arcW_below hb' HAA.out.own (arcW_below HAA.out HO.out HT.out.below (Nat.le_refl _) (by omega)) (Nat.le_refl _) (by omega)
      have hsz2 : w.heap.size + 1 ≤ wb.heap.size := by have := hx2.lt; omega
      have HR := Lib.hid (show ∃ l, Own Ac.encR 5 99 wb (w.heap.size + 1) (.slice (some ⟨g, 0, none⟩) l.length cap) l ∧ shp l = shp (arcsOf b) ∧ Circ n l from ⟨l2, by rw [hl2]; exact hb'.own, hp2.shape.trans (HP1.out.shape.trans HSH.out), hp2.circ (HP1.out.circ HCC.out)⟩)
      have HOA := Lib.hid (ho2.alloc (.cells #[.int .i64 lo, .int .i64 hi] 24))
      have HSZ := Lib.hid (show w.heap.size + 1 ≤ (wb.alloc (.cells #[.int .i64 lo, .int .i64 hi] 24)).heap.size by simp; omega)
      have HXA := Lib.hid (hx2.alloc (.cells #[.int .i64 lo, .int .i64 hi] 24))
      have HBA := Lib.hid (hbl2.alloc (by omega) (.cells #[.int .i64 lo, .int .i64 hi] 24))
      have HDI := Lib.hid hdis
      have HLE := Lib.hid (show rs.length ≤ 1000000 by omega)
      have HLL := Lib.hid (hl2.trans rfl)
      clear hb' hp2 hhi hext hdis ho2 hx2 hbl2
      go_wp2_with (at_builtin; (refine wpList_pushB Rg.enc 2 16 26 24 _ Try.underlying26 Try.infoRg rfl (by decide) (by decide) Rg.enc_len Rg.enc_one rs ⟨lo, hi⟩ (w.heap.size + 1) _ _ _ _ (row_here (by simp)) rfl _ HOA.out HSZ.out HLE.out rfl _ _ rfl rfl rfl ?_); intro v' w' hown' hg')
      go_roundw
      case rel =>
        refine ⟨k + 1, _, rs ++ [⟨lo, hi⟩], by omega, by go_num, rfl, by simp [hrl], ?_, hown', HXA.out.kept hg' (HOA.out.ne (by omega)), grown_below HBA.out hg' HBA.out.size HOA.out.lt' (by omega), ?_⟩
        · obtain ⟨lx, h1, h2, h3⟩ := HR.out
          have h0 : lx.length = l.length := shp_length (h2.trans HSH.out.symm)
          rw [h0] at h1
          refine ⟨lx, (h1.alloc _).kept hg' (.inr fun e => ?_), h2, h3⟩
          exact HDI.out g e.symm rfl
        · intro i r hr
          by_cases hik : i < rs.length
          · rw [List.getElem?_append_left hik] at hr
            exact HT.out.tight i r hr
          · have hik2 : i = rs.length := by
              have := (List.getElem?_eq_some_iff.1 hr).1
              simp at this; omega
            subst hik2
            rw [List.getElem?_append_right (Nat.le_refl _)] at hr
            simp at hr
            subst hr
            rw [hrl]; exact HEX.out
      case measure => simp [intOf]; omega
    · obtain rfl : b.ts.length = k := by omega
      clear ht
      go_wp2_with fail
      go_ret
      exact ⟨_, rs, rfl, HT.out.out.toSl Rg.enc_len (by omega), hrl, fun i r h => hn ▸ HT.out.tight i r h, HT.out.below⟩
end Go.Proofs.Ytlakcghdehdeiaa
