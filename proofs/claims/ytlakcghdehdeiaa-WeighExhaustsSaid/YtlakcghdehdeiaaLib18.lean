/- Lemmas on the way to the laws (part 18): Sf Sg Sh Si -/
import Derived.Test.YtlakcghdehdeiaaLib17
import Derived.RegionTactic
import Derived.BigRegion
set_option linter.unusedVariables false
set_option linter.unusedSimpArgs false

/- Walks: one arc in the reference's search. -/
namespace Go.Proofs.Ytlakcghdehdeiaa
open Go Go.Proofs Go.RowKit

noncomputable def c93 : Code := Try.f93.body.getD .skip
noncomputable def b93a : Code := codeL (codeL (codeR (codeL (codeR (codeR (codeR (codeR (codeR c93))))))))
/-- One node's turn. -/
noncomputable def b93b : Code := codeL (codeL (codeR b93a))
/-- The way is traced back. -/
noncomputable def p93t : Code := codeL (codeR (codeL (codeR b93b)))
/-- All arcs are looked at from a node. -/
noncomputable def i93 : Code := codeR (codeR b93b)
noncomputable def b93c : Code := codeL (codeL (codeR (codeL (codeL (codeR i93)))))
/-- One arc, forwards; backwards. -/
noncomputable def p93f : Code := codeL (codeR b93c)
noncomputable def p93b : Code := codeR (codeR b93c)
/-- Arcs as they lie in memory. -/
structure ArcAt (w : World) (bl ol : Nat) (l : List Ac) : Prop where
  lt : bl < w.heap.size
  cells : ∀ i (h : i < l.length), At w bl (ol + i * 5) l[i].encR
theorem ArcAt.c {w wr : World} {bl ol : Nat} {l : List Ac} (h : ArcAt w bl ol l) (hb : Below w.heap.size w wr) {i : Nat} {a : Ac} (hi : l[i]? = some a) :
    wr.cell? ⟨bl, ol + i * 5, none⟩ = some (.int .i64 a.fr) ∧ wr.cell? ⟨bl, ol + i * 5 + 1, none⟩ = some (.int .i64 a.to) ∧ wr.cell? ⟨bl, ol + i * 5 + 2, none⟩ = some (.int .i64 a.lo) ∧ wr.cell? ⟨bl, ol + i * 5 + 3, none⟩ = some (.int .i64 a.hi) ∧ wr.cell? ⟨bl, ol + i * 5 + 4, none⟩ = some (.int .i64 a.fl) := by
  obtain ⟨h1, rfl⟩ := List.getElem?_eq_some_iff.1 hi
  exact ((h.cells i h1).below hb h.lt).c5
theorem ArcAt.z {w wr : World} {bl ol : Nat} {l : List Ac} (h : ArcAt w bl ol l) (hb : Below w.heap.size w wr) : bl < wr.heap.size := Nat.lt_of_lt_of_le h.lt hb.size

set_option maxRecDepth 100000 in
set_option maxHeartbeats 1000000 in
theorem p93f_walk (w wr : World) (n gs Bw : Nat) (l : List Ac) (wo : Int) (u v j : Nat) (seen : List Bool) (bys : List Int) (ord : List Nat) (vw : Value) (bl ol n1 : Nat) {q0 q2 q3 q4 q5 q6 q7 q8 q9 q10 q11 q12 q16 q17 q19 q20 q22 q23 q24 q25 q26 q27 q28 q29 q30 q31 q32 q33 q34 q35 q36 q37 q38 q39 q40 q41 q42 q43 q44 q45 q46 q47 q48 q49 q50 q51 q52 q53 q54 q55 q56 q57 q58 q59 q60 q61 q62 q63 q64 q65 q66 q67 q68 q69 q70 q71 q72 q73 q74 q75 q76 q77 q78 q79 q80 q81 q82 q83 q84 q85 q86 q87 q88 q89 q90 q91 q92 q93 q94 q95 q96 q97 q98 q99 q100 q101 q102 q103 q104 q105 q106 q107 q108 q109 q110 q111 q112 q113 q114 q115 q116 q117 q118 q119 q120 q121 q122 q123 q124 q125 q126 q127 q128 q129 q130 q131 q132 q133 q134 q135 q136 q137 q138 q139 q140 q141 q142 q143 q144 q145 q146 q147 q148 q149 q150 q151 q152 q153 q154 q155 q156 q157 q158 q159 q160 q161 q162 q163 q164 q165 q166 q167 q168 q169 q170 q171 q172 q173 q174 q175 q176 q177 q178 q179 q180 q181 q182 q183 q184 q185 q186 q187 q188 q189 q190 q191 q192 q193 q194 q195 q196 q197 q198 q199 q200 q201 q202 q203 q204 q205 q206 q207 q208 q209 q210 q211 q212 q213 q214 q215 q216 q217 q218 q219 q220 q221 q222 q223 q224 q225 q226 q227 q228 q229 q230 q231 q232 q233 q234 q235 q236 q237 q238 q239 q240 q241 q242 q243 q244 q245 q246 q247 q248 q249 q250 q251 q252 q253 q254 q255 q256 q257 : Value} (hA : ArcAt w bl ol l) (hS : Small l 1000000000000) (hl : l.length ≤ 1000) (hn : n ≤ 1000) (hw : WyW w wr n gs Bw seen bys ord vw) (hb : BfsR l wo u n seen bys ord) (hjw : (j : Int) ≠ wo) (hv : v ∈ ord) (fr to : Nat) (lo hi fl : Int) (hat : l[j]? = some ⟨fr, to, lo, hi, fl⟩) (hlo : fr ≠ to) (n1' : fr < n) (n2' : to < n) :
    p93f.wp Try.prog (fun (e : Exit) (a : Act) (W' : World) => e = .normal ∧ ∃ (vw' : Value) (seen' : List Bool) (bys' : List Int) (ext : List Nat)  (z : Nat → Value), a = { tmps := #[q0, .slice (some ⟨bl, ol, none⟩) l.length n1, q2, q3, q4, q5, q6, q7, q8, q9, q10, q11, q12, .slice (some ⟨w.heap.size, 0, none⟩) n n, .slice (some ⟨gs, 0, none⟩) n n, vw', q16, q17, .int .i64 (v : Nat), q19, q20, .int .i64 (j : Nat), q22, q23, q24, q25, q26, q27, q28, q29, q30, q31, q32, q33, q34, q35, q36, q37, q38, q39, q40, q41, q42, q43, q44, q45, q46, q47, q48, q49, q50, q51, q52, q53, q54, q55, q56, q57, q58, q59, q60, q61, q62, q63, q64, q65, q66, q67, q68, q69, q70, q71, q72, q73, q74, q75, q76, q77, q78, q79, q80, q81, q82, q83, q84, q85, q86, q87, q88, q89, q90, q91, q92, q93, q94, q95, q96, q97, q98, q99, q100, q101, q102, q103, q104, q105, q106, q107, q108, q109, q110, q111, q112, q113, q114, q115, q116, q117, q118, q119, q120, q121, q122, q123, q124, q125, q126, q127, q128, q129, q130, q131, q132, q133, q134, q135, q136, q137, q138, q139, q140, q141, q142, q143, q144, q145, q146, z 147, z 148, z 149, z 150, z 151, z 152, z 153, z 154, z 155, z 156, z 157, z 158, z 159, z 160, z 161, z 162, z 163, z 164, z 165, z 166, z 167, z 168, z 169, z 170, z 171, z 172, z 173, z 174, z 175, z 176, z 177, z 178, z 179, z 180, z 181, z 182, z 183, z 184, z 185, z 186, z 187, z 188, z 189, z 190, z 191, z 192, z 193, z 194, z 195, z 196, z 197, z 198, z 199, z 200, z 201, q202, q203, q204, q205, q206, q207, q208, q209, q210, q211, q212, q213, q214, q215, q216, q217, q218, q219, q220, q221, q222, q223, q224, q225, q226, q227, q228, q229, q230, q231, q232, q233, q234, q235, q236, q237, q238, q239, q240, q241, q242, q243, q244, q245, q246, q247, q248, q249, q250, q251, q252, q253, q254, q255, q256, q257], defers := [] } ∧ WyW w W' n gs Bw seen' bys' (ord ++ ext) vw' ∧ BfsR l wo u n seen' bys' (ord ++ ext) ∧ (fr = v → fl < hi → to ∈ ord ++ ext))
      { tmps := #[q0, .slice (some ⟨bl, ol, none⟩) l.length n1, q2, q3, q4, q5, q6, q7, q8, q9, q10, q11, q12, .slice (some ⟨w.heap.size, 0, none⟩) n n, .slice (some ⟨gs, 0, none⟩) n n, vw, q16, q17, .int .i64 (v : Nat), q19, q20, .int .i64 (j : Nat), q22, q23, q24, q25, q26, q27, q28, q29, q30, q31, q32, q33, q34, q35, q36, q37, q38, q39, q40, q41, q42, q43, q44, q45, q46, q47, q48, q49, q50, q51, q52, q53, q54, q55, q56, q57, q58, q59, q60, q61, q62, q63, q64, q65, q66, q67, q68, q69, q70, q71, q72, q73, q74, q75, q76, q77, q78, q79, q80, q81, q82, q83, q84, q85, q86, q87, q88, q89, q90, q91, q92, q93, q94, q95, q96, q97, q98, q99, q100, q101, q102, q103, q104, q105, q106, q107, q108, q109, q110, q111, q112, q113, q114, q115, q116, q117, q118, q119, q120, q121, q122, q123, q124, q125, q126, q127, q128, q129, q130, q131, q132, q133, q134, q135, q136, q137, q138, q139, q140, q141, q142, q143, q144, q145, q146, q147, q148, q149, q150, q151, q152, q153, q154, q155, q156, q157, q158, q159, q160, q161, q162, q163, q164, q165, q166, q167, q168, q169, q170, q171, q172, q173, q174, q175, q176, q177, q178, q179, q180, q181, q182, q183, q184, q185, q186, q187, q188, q189, q190, q191, q192, q193, q194, q195, q196, q197, q198, q199, q200, q201, q202, q203, q204, q205, q206, q207, q208, q209, q210, q211, q212, q213, q214, q215, q216, q217, q218, q219, q220, q221, q222, q223, q224, q225, q226, q227, q228, q229, q230, q231, q232, q233, q234, q235, q236, q237, q238, q239, q240, q241, q242, q243, q244, q245, q246, q247, q248, q249, q250, q251, q252, q253, q254, q255, q256, q257], defers := [] } wr := by
  obtain ⟨Q, hQ⟩ : ∃ Q : Exit → Act → World → Prop, (fun (e : Exit) (a : Act) (W' : World) => e = .normal ∧ ∃ (vw' : Value) (seen' : List Bool) (bys' : List Int) (ext : List Nat)  (z : Nat → Value), a = { tmps := #[q0, .slice (some ⟨bl, ol, none⟩) l.length n1, q2, q3, q4, q5, q6, q7, q8, q9, q10, q11, q12, .slice (some ⟨w.heap.size, 0, none⟩) n n, .slice (some ⟨gs, 0, none⟩) n n, vw', q16, q17, .int .i64 (v : Nat), q19, q20, .int .i64 (j : Nat), q22, q23, q24, q25, q26, q27, q28, q29, q30, q31, q32, q33, q34, q35, q36, q37, q38, q39, q40, q41, q42, q43, q44, q45, q46, q47, q48, q49, q50, q51, q52, q53, q54, q55, q56, q57, q58, q59, q60, q61, q62, q63, q64, q65, q66, q67, q68, q69, q70, q71, q72, q73, q74, q75, q76, q77, q78, q79, q80, q81, q82, q83, q84, q85, q86, q87, q88, q89, q90, q91, q92, q93, q94, q95, q96, q97, q98, q99, q100, q101, q102, q103, q104, q105, q106, q107, q108, q109, q110, q111, q112, q113, q114, q115, q116, q117, q118, q119, q120, q121, q122, q123, q124, q125, q126, q127, q128, q129, q130, q131, q132, q133, q134, q135, q136, q137, q138, q139, q140, q141, q142, q143, q144, q145, q146, z 147, z 148, z 149, z 150, z 151, z 152, z 153, z 154, z 155, z 156, z 157, z 158, z 159, z 160, z 161, z 162, z 163, z 164, z 165, z 166, z 167, z 168, z 169, z 170, z 171, z 172, z 173, z 174, z 175, z 176, z 177, z 178, z 179, z 180, z 181, z 182, z 183, z 184, z 185, z 186, z 187, z 188, z 189, z 190, z 191, z 192, z 193, z 194, z 195, z 196, z 197, z 198, z 199, z 200, z 201, q202, q203, q204, q205, q206, q207, q208, q209, q210, q211, q212, q213, q214, q215, q216, q217, q218, q219, q220, q221, q222, q223, q224, q225, q226, q227, q228, q229, q230, q231, q232, q233, q234, q235, q236, q237, q238, q239, q240, q241, q242, q243, q244, q245, q246, q247, q248, q249, q250, q251, q252, q253, q254, q255, q256, q257], defers := [] } ∧ WyW w W' n gs Bw seen' bys' (ord ++ ext) vw' ∧ BfsR l wo u n seen' bys' (ord ++ ext) ∧ (fr = v → fl < hi → to ∈ ord ++ ext)) = Q := ⟨_, rfl⟩
  rw [hQ]
  have HQ := Lib.hid hQ
  clear hQ
  obtain ⟨hjl, hjat⟩ := List.getElem?_eq_some_iff.1 hat
  have hbd := hS l[j] (List.getElem_mem hjl)
  rw [hjat] at hbd
  obtain ⟨q4', q5', q6', q7', q8', q9'⟩ := hbd
  have HCA := Lib.hid (fun (W : World) (h : Below w.heap.size w W) => hA.c h hat)
  have HZ := Lib.hid (fun (W : World) (h : Below w.heap.size w W) => hA.z h)
  have hbl := hA.lt
  obtain ⟨e0, e1, e2, e3, e4⟩ := HCA.out _ hw.below
  have hblz := HZ.out _ hw.below
  obtain ⟨z1, z2⟩ := hw.gsz
  have sx := hw.seenc n2'
  have mx := hb.mem to n2'
  obtain ⟨bx, hbx⟩ : ∃ y, seen.getD to false = y := ⟨_, rfl⟩
  rw [hbx] at sx mx
  have HM := Lib.hid mx
  have HLEN := Lib.hid (show (outI ord).length ≤ 1000000 by have h := hb.count; simp at h ⊢; omega)
  have HW := Lib.hid hw
  have HB := Lib.hid hb
  have HV := Lib.hid hv
  have HAT := Lib.hid (headOf_at hat true)
  clear hA hS hw hb mx hbx hv hjat hat
  simp only [p93f, b93c, i93, b93b, b93a, c93, Try.f93, Option.getD, codeL, codeR]
  by_cases hfr : fr = v
  · subst hfr
    have b1 : ((fr : Int) == (fr : Int)) = true := beq_self_eq_true _
    cases bx with
    | true =>
      go_wp2_with fail
      go_quiet (fail)
      go_wp2_with fail
      rw [← HQ.out]
      refine ⟨rfl, _, seen, bys, [], fun i => [_, _, _, _, _, _, _, _, _, _, _, _, _, _, _, _, _, _, _, _, _, _, _, _, _, _, _, _, _, _, _, _, _, _, _, _, _, _, _, _, _, _, _, _, _, _, _, _, _, _, _, _, _, _, _].getD (i - 147) undef, rfl, ?_, ?_, ?_⟩
      · rw [List.append_nil]; exact HW.out.later (below_drewN (Below.refl _ _) nq)
      · rw [List.append_nil]; exact HB.out
      · intro _ _; rw [List.append_nil]; exact HM.out.1 (by first | rfl | trivial)
    | false =>
      by_cases hfl : fl < hi
      · have b3 : decide (fl < hi) = true := decide_eq_true hfl
        go_wp2_with fail
        go_quiet (fail)
        have HW5 := Lib.hid (HW.out.later (below_drewN (Below.refl _ _) nq))
        generalize wr.drewN nq = w5 at *
        clear e0 e1 e2 e3 e4 z1 z2 hblz sx nq
        obtain ⟨e0, e1, e2, e3, e4⟩ := HCA.out _ HW5.out.below
        obtain ⟨z1, z2⟩ := HW5.out.gsz
        have hblz := HZ.out _ HW5.out.below
        have sx := HW5.out.seenc n2'
        go_wp2_with fail
        have hbn := HW5.out.bn
        have zf := HW5.out.seenf
        have hg3 : ¬ gs = bl := by have := HW5.out.gs1; omega
        have HWd := Lib.hid (HW5.out.later (show Below w5.heap.size w5 { w5 with drawn := w5.drawn + 1 } from ⟨rfl, rfl, rfl, Nat.le_refl _, fun _ _ => rfl⟩))
        have HK : Hid (∀ W', (W' = { w5 with drawn := w5.drawn + 1 } ∨ W' = ({ w5 with drawn := w5.drawn + 1 } : World).setCell ⟨gs, to, none⟩ (.bool true)) → ∃ X : Keep w5 (fun b _ => b = bl), W' = X.w) := Lib.hid (by
          rintro W' (rfl | rfl)
          · exact ⟨⟨{ w5 with drawn := w5.drawn + 1 }, fun b o hb => rfl⟩, rfl⟩
          · exact ⟨⟨({ w5 with drawn := w5.drawn + 1 } : World).setCell ⟨gs, to, none⟩ (.bool true), fun b o hb => by subst hb; exact (cell_other _ _ _ _ _ _ (.inl hg3)).trans rfl⟩, rfl⟩)
        refine wp_region_storeflow 17 15 _ (({ w5 with drawn := w5.drawn + 1 } : World).setCell ⟨gs, to, none⟩ (.bool true)) (by kernel_rfl) (by kernel_rfl) rfl ?_
        apply Exists.intro
        refine ⟨fun W' hW' => ?_, ?_, ?_⟩
        · obtain ⟨X, hX⟩ := HK.out W' hW'
          subst hX
          rw [← keep1_class X]
          simp only [headsOf, List.take_succ_cons, List.drop_succ_cons, List.take_zero, List.drop_zero, Nat.reduceSub, List.cons_append, List.nil_append]
          repeat go_big_quiet_step (fail)
          exact wpQuiet_nil rfl
        · have zf2 : ({ w5 with drawn := w5.drawn + 1 } : World).frozen? ⟨gs, to, none⟩ = false := zf to
          have sx2 : ({ w5 with drawn := w5.drawn + 1 } : World).cell? ⟨gs, to, none⟩ = some (.bool (seen.getD to false)) := sx
          go_simp
          first | done | rfl
        simp only [Act.put, List.setIfInBounds_toArray, List.set_cons_succ, List.set_cons_zero, List.drop_succ_cons, List.drop_zero]
        generalize ({ w5 with drawn := w5.drawn + 1 } : World) = w6 at *
        clear zf sx z1 z2 e0 e1 e2 e3 e4 hblz HK
        have hwe := HWd.out.setSeen n2'
        have HW6 := Lib.hid (hwe.setBy n2' ((j : Int) + 1))
        have cby := hwe.byc (List.getElem?_eq_getElem (show to < bys.length by omega))
        have yf := hwe.byf
        obtain ⟨z1, z2⟩ := HWd.out.gsz
        have z3 := hwe.gsz.1
        clear hwe
        have hblz := HZ.out _ HWd.out.below
        have HW7 := Lib.hid (HW6.out.alloc (.cells #[.int .i64 (to : Int)] 3))
        obtain ⟨e0, e1, e2, e3, e4⟩ := HCA.out _ HW6.out.below
        go_wp2_with (at_builtin; (refine wpList_pushB encI 1 8 22 3 _ Try.underlying22 Try.infoI rfl (by decide) (by decide) encI_len encI_one (outI ord) (to : Int) Bw _ _ _ _ (row_here (by simp)) rfl _ HW7.out.work HW7.out.bsz HLEN.out rfl _ _ rfl rfl rfl ?_); intro v' w' hown' hg'; have HW8 := Lib.hid (HW7.out.push hown' hg'); clear hown' hg')
        rw [← HQ.out]
        have hnin : to ∉ ord := fun h => by have h2 := HM.out.2 h; cases h2
        have hgd : GoodSt l fr wo ((j, true), to) := ⟨hjl, hjw, HAT.out.1, HAT.out.2.1, by rw [HAT.out.2.2]; simp; omega⟩
        refine ⟨rfl, _, seen.set to true, bys.set to (code (j, true)), [to], fun i => [_, _, _, _, _, _, _, _, _, _, _, _, _, _, _, _, _, _, _, _, _, _, _, _, _, _, _, _, _, _, _, _, _, _, _, _, _, _, _, _, _, _, _, _, _, _, _, _, _, _, _, _, _, _, _].getD (i - 147) undef, rfl, HW8.out, HB.out.visit HV.out n2' hnin hgd, ?_⟩
        intro _ _; simp
      · have b3 : decide (fl < hi) = false := decide_eq_false hfl
        go_wp2_with fail
        go_quiet (fail)
        go_wp2_with fail
        rw [← HQ.out]
        refine ⟨rfl, _, seen, bys, [], fun i => [_, _, _, _, _, _, _, _, _, _, _, _, _, _, _, _, _, _, _, _, _, _, _, _, _, _, _, _, _, _, _, _, _, _, _, _, _, _, _, _, _, _, _, _, _, _, _, _, _, _, _, _, _, _, _].getD (i - 147) undef, rfl, ?_, ?_, ?_⟩
        · rw [List.append_nil]; exact HW.out.later (below_drewN (Below.refl _ _) nq)
        · rw [List.append_nil]; exact HB.out
        · intro _ h; exact absurd h (by omega)
  · have b1 : ((fr : Int) == (v : Int)) = false := beq_eq_false_iff_ne.2 (by omega)
    go_wp2_with fail
    go_quiet (fail)
    go_wp2_with fail
    rw [← HQ.out]
    refine ⟨rfl, _, seen, bys, [], fun i => [_, _, _, _, _, _, _, _, _, _, _, _, _, _, _, _, _, _, _, _, _, _, _, _, _, _, _, _, _, _, _, _, _, _, _, _, _, _, _, _, _, _, _, _, _, _, _, _, _, _, _, _, _, _, _].getD (i - 147) undef, rfl, ?_, ?_, ?_⟩
    · rw [List.append_nil]; exact HW.out.later (below_drewN (Below.refl _ _) nq)
    · rw [List.append_nil]; exact HB.out
    · intro h; exact absurd h hfr

set_option maxRecDepth 100000 in
set_option maxHeartbeats 1000000 in
theorem p93b_walk (w wr : World) (n gs Bw : Nat) (l : List Ac) (wo : Int) (u v j : Nat) (seen : List Bool) (bys : List Int) (ord : List Nat) (vw : Value) (bl ol n1 : Nat) {q0 q2 q3 q4 q5 q6 q7 q8 q9 q10 q11 q12 q16 q17 q19 q20 q22 q23 q24 q25 q26 q27 q28 q29 q30 q31 q32 q33 q34 q35 q36 q37 q38 q39 q40 q41 q42 q43 q44 q45 q46 q47 q48 q49 q50 q51 q52 q53 q54 q55 q56 q57 q58 q59 q60 q61 q62 q63 q64 q65 q66 q67 q68 q69 q70 q71 q72 q73 q74 q75 q76 q77 q78 q79 q80 q81 q82 q83 q84 q85 q86 q87 q88 q89 q90 q91 q92 q93 q94 q95 q96 q97 q98 q99 q100 q101 q102 q103 q104 q105 q106 q107 q108 q109 q110 q111 q112 q113 q114 q115 q116 q117 q118 q119 q120 q121 q122 q123 q124 q125 q126 q127 q128 q129 q130 q131 q132 q133 q134 q135 q136 q137 q138 q139 q140 q141 q142 q143 q144 q145 q146 q147 q148 q149 q150 q151 q152 q153 q154 q155 q156 q157 q158 q159 q160 q161 q162 q163 q164 q165 q166 q167 q168 q169 q170 q171 q172 q173 q174 q175 q176 q177 q178 q179 q180 q181 q182 q183 q184 q185 q186 q187 q188 q189 q190 q191 q192 q193 q194 q195 q196 q197 q198 q199 q200 q201 q202 q203 q204 q205 q206 q207 q208 q209 q210 q211 q212 q213 q214 q215 q216 q217 q218 q219 q220 q221 q222 q223 q224 q225 q226 q227 q228 q229 q230 q231 q232 q233 q234 q235 q236 q237 q238 q239 q240 q241 q242 q243 q244 q245 q246 q247 q248 q249 q250 q251 q252 q253 q254 q255 q256 q257 : Value} (hA : ArcAt w bl ol l) (hS : Small l 1000000000000) (hl : l.length ≤ 1000) (hn : n ≤ 1000) (hw : WyW w wr n gs Bw seen bys ord vw) (hb : BfsR l wo u n seen bys ord) (hjw : (j : Int) ≠ wo) (hv : v ∈ ord) (fr to : Nat) (lo hi fl : Int) (hat : l[j]? = some ⟨fr, to, lo, hi, fl⟩) (hlo : fr ≠ to) (n1' : fr < n) (n2' : to < n) :
    p93b.wp Try.prog (fun (e : Exit) (a : Act) (W' : World) => e = .normal ∧ ∃ (vw' : Value) (seen' : List Bool) (bys' : List Int) (ext : List Nat)  (z : Nat → Value), a = { tmps := #[q0, .slice (some ⟨bl, ol, none⟩) l.length n1, q2, q3, q4, q5, q6, q7, q8, q9, q10, q11, q12, .slice (some ⟨w.heap.size, 0, none⟩) n n, .slice (some ⟨gs, 0, none⟩) n n, vw', q16, q17, .int .i64 (v : Nat), q19, q20, .int .i64 (j : Nat), q22, q23, q24, q25, q26, q27, q28, q29, q30, q31, q32, q33, q34, q35, q36, q37, q38, q39, q40, q41, q42, q43, q44, q45, q46, q47, q48, q49, q50, q51, q52, q53, q54, q55, q56, q57, q58, q59, q60, q61, q62, q63, q64, q65, q66, q67, q68, q69, q70, q71, q72, q73, q74, q75, q76, q77, q78, q79, q80, q81, q82, q83, q84, q85, q86, q87, q88, q89, q90, q91, q92, q93, q94, q95, q96, q97, q98, q99, q100, q101, q102, q103, q104, q105, q106, q107, q108, q109, q110, q111, q112, q113, q114, q115, q116, q117, q118, q119, q120, q121, q122, q123, q124, q125, q126, q127, q128, q129, q130, q131, q132, q133, q134, q135, q136, q137, q138, q139, q140, q141, q142, q143, q144, q145, q146, q147, q148, q149, q150, q151, q152, q153, q154, q155, q156, q157, q158, q159, q160, q161, q162, q163, q164, q165, q166, q167, q168, q169, q170, q171, q172, q173, q174, q175, q176, q177, q178, q179, q180, q181, q182, q183, q184, q185, q186, q187, q188, q189, q190, q191, q192, q193, q194, q195, q196, q197, q198, q199, q200, q201, z 202, z 203, z 204, z 205, z 206, z 207, z 208, z 209, z 210, z 211, z 212, z 213, z 214, z 215, z 216, z 217, z 218, z 219, z 220, z 221, z 222, z 223, z 224, z 225, z 226, z 227, z 228, z 229, z 230, z 231, z 232, z 233, z 234, z 235, z 236, z 237, z 238, z 239, z 240, z 241, z 242, z 243, z 244, z 245, z 246, z 247, z 248, z 249, z 250, z 251, z 252, z 253, z 254, z 255, z 256, z 257], defers := [] } ∧ WyW w W' n gs Bw seen' bys' (ord ++ ext) vw' ∧ BfsR l wo u n seen' bys' (ord ++ ext) ∧ (to = v → lo < fl → fr ∈ ord ++ ext))
      { tmps := #[q0, .slice (some ⟨bl, ol, none⟩) l.length n1, q2, q3, q4, q5, q6, q7, q8, q9, q10, q11, q12, .slice (some ⟨w.heap.size, 0, none⟩) n n, .slice (some ⟨gs, 0, none⟩) n n, vw, q16, q17, .int .i64 (v : Nat), q19, q20, .int .i64 (j : Nat), q22, q23, q24, q25, q26, q27, q28, q29, q30, q31, q32, q33, q34, q35, q36, q37, q38, q39, q40, q41, q42, q43, q44, q45, q46, q47, q48, q49, q50, q51, q52, q53, q54, q55, q56, q57, q58, q59, q60, q61, q62, q63, q64, q65, q66, q67, q68, q69, q70, q71, q72, q73, q74, q75, q76, q77, q78, q79, q80, q81, q82, q83, q84, q85, q86, q87, q88, q89, q90, q91, q92, q93, q94, q95, q96, q97, q98, q99, q100, q101, q102, q103, q104, q105, q106, q107, q108, q109, q110, q111, q112, q113, q114, q115, q116, q117, q118, q119, q120, q121, q122, q123, q124, q125, q126, q127, q128, q129, q130, q131, q132, q133, q134, q135, q136, q137, q138, q139, q140, q141, q142, q143, q144, q145, q146, q147, q148, q149, q150, q151, q152, q153, q154, q155, q156, q157, q158, q159, q160, q161, q162, q163, q164, q165, q166, q167, q168, q169, q170, q171, q172, q173, q174, q175, q176, q177, q178, q179, q180, q181, q182, q183, q184, q185, q186, q187, q188, q189, q190, q191, q192, q193, q194, q195, q196, q197, q198, q199, q200, q201, q202, q203, q204, q205, q206, q207, q208, q209, q210, q211, q212, q213, q214, q215, q216, q217, q218, q219, q220, q221, q222, q223, q224, q225, q226, q227, q228, q229, q230, q231, q232, q233, q234, q235, q236, q237, q238, q239, q240, q241, q242, q243, q244, q245, q246, q247, q248, q249, q250, q251, q252, q253, q254, q255, q256, q257], defers := [] } wr := by
  obtain ⟨Q, hQ⟩ : ∃ Q : Exit → Act → World → Prop, (fun (e : Exit) (a : Act) (W' : World) => e = .normal ∧ ∃ (vw' : Value) (seen' : List Bool) (bys' : List Int) (ext : List Nat)  (z : Nat → Value), a = { tmps := #[q0, .slice (some ⟨bl, ol, none⟩) l.length n1, q2, q3, q4, q5, q6, q7, q8, q9, q10, q11, q12, .slice (some ⟨w.heap.size, 0, none⟩) n n, .slice (some ⟨gs, 0, none⟩) n n, vw', q16, q17, .int .i64 (v : Nat), q19, q20, .int .i64 (j : Nat), q22, q23, q24, q25, q26, q27, q28, q29, q30, q31, q32, q33, q34, q35, q36, q37, q38, q39, q40, q41, q42, q43, q44, q45, q46, q47, q48, q49, q50, q51, q52, q53, q54, q55, q56, q57, q58, q59, q60, q61, q62, q63, q64, q65, q66, q67, q68, q69, q70, q71, q72, q73, q74, q75, q76, q77, q78, q79, q80, q81, q82, q83, q84, q85, q86, q87, q88, q89, q90, q91, q92, q93, q94, q95, q96, q97, q98, q99, q100, q101, q102, q103, q104, q105, q106, q107, q108, q109, q110, q111, q112, q113, q114, q115, q116, q117, q118, q119, q120, q121, q122, q123, q124, q125, q126, q127, q128, q129, q130, q131, q132, q133, q134, q135, q136, q137, q138, q139, q140, q141, q142, q143, q144, q145, q146, q147, q148, q149, q150, q151, q152, q153, q154, q155, q156, q157, q158, q159, q160, q161, q162, q163, q164, q165, q166, q167, q168, q169, q170, q171, q172, q173, q174, q175, q176, q177, q178, q179, q180, q181, q182, q183, q184, q185, q186, q187, q188, q189, q190, q191, q192, q193, q194, q195, q196, q197, q198, q199, q200, q201, z 202, z 203, z 204, z 205, z 206, z 207, z 208, z 209, z 210, z 211, z 212, z 213, z 214, z 215, z 216, z 217, z 218, z 219, z 220, z 221, z 222, z 223, z 224, z 225, z 226, z 227, z 228, z 229, z 230, z 231, z 232, z 233, z 234, z 235, z 236, z 237, z 238, z 239, z 240, z 241, z 242, z 243, z 244, z 245, z 246, z 247, z 248, z 249, z 250, z 251, z 252, z 253, z 254, z 255, z 256, z 257], defers := [] } ∧ WyW w W' n gs Bw seen' bys' (ord ++ ext) vw' ∧ BfsR l wo u n seen' bys' (ord ++ ext) ∧ (to = v → lo < fl → fr ∈ ord ++ ext)) = Q := ⟨_, rfl⟩
  rw [hQ]
  have HQ := Lib.hid hQ
  clear hQ
  obtain ⟨hjl, hjat⟩ := List.getElem?_eq_some_iff.1 hat
  have hbd := hS l[j] (List.getElem_mem hjl)
  rw [hjat] at hbd
  obtain ⟨q4', q5', q6', q7', q8', q9'⟩ := hbd
  have HCA := Lib.hid (fun (W : World) (h : Below w.heap.size w W) => hA.c h hat)
  have HZ := Lib.hid (fun (W : World) (h : Below w.heap.size w W) => hA.z h)
  have hbl := hA.lt
  obtain ⟨e0, e1, e2, e3, e4⟩ := HCA.out _ hw.below
  have hblz := HZ.out _ hw.below
  obtain ⟨z1, z2⟩ := hw.gsz
  have sx := hw.seenc n1'
  have mx := hb.mem fr n1'
  obtain ⟨bx, hbx⟩ : ∃ y, seen.getD fr false = y := ⟨_, rfl⟩
  rw [hbx] at sx mx
  have HM := Lib.hid mx
  have HLEN := Lib.hid (show (outI ord).length ≤ 1000000 by have h := hb.count; simp at h ⊢; omega)
  have HW := Lib.hid hw
  have HB := Lib.hid hb
  have HV := Lib.hid hv
  have HAT := Lib.hid (headOf_at hat false)
  clear hA hS hw hb mx hbx hv hjat hat
  simp only [p93b, b93c, i93, b93b, b93a, c93, Try.f93, Option.getD, codeL, codeR]
  by_cases hfr : to = v
  · subst hfr
    have b1 : ((to : Int) == (to : Int)) = true := beq_self_eq_true _
    cases bx with
    | true =>
      go_wp2_with fail
      go_quiet (fail)
      go_wp2_with fail
      rw [← HQ.out]
      refine ⟨rfl, _, seen, bys, [], fun i => [_, _, _, _, _, _, _, _, _, _, _, _, _, _, _, _, _, _, _, _, _, _, _, _, _, _, _, _, _, _, _, _, _, _, _, _, _, _, _, _, _, _, _, _, _, _, _, _, _, _, _, _, _, _, _, _].getD (i - 202) undef, rfl, ?_, ?_, ?_⟩
      · rw [List.append_nil]; exact HW.out.later (below_drewN (Below.refl _ _) nq)
      · rw [List.append_nil]; exact HB.out
      · intro _ _; rw [List.append_nil]; exact HM.out.1 (by first | rfl | trivial)
    | false =>
      by_cases hfl : lo < fl
      · have b3 : decide (lo < fl) = true := decide_eq_true hfl
        go_wp2_with fail
        go_quiet (fail)
        have HW5 := Lib.hid (HW.out.later (below_drewN (Below.refl _ _) nq))
        generalize wr.drewN nq = w5 at *
        clear e0 e1 e2 e3 e4 z1 z2 hblz sx nq
        obtain ⟨e0, e1, e2, e3, e4⟩ := HCA.out _ HW5.out.below
        obtain ⟨z1, z2⟩ := HW5.out.gsz
        have hblz := HZ.out _ HW5.out.below
        have sx := HW5.out.seenc n1'
        go_wp2_with fail
        have hbn := HW5.out.bn
        have zf := HW5.out.seenf
        have hg3 : ¬ gs = bl := by have := HW5.out.gs1; omega
        have HWd := Lib.hid (HW5.out.later (show Below w5.heap.size w5 { w5 with drawn := w5.drawn + 1 } from ⟨rfl, rfl, rfl, Nat.le_refl _, fun _ _ => rfl⟩))
        have HK : Hid (∀ W', (W' = { w5 with drawn := w5.drawn + 1 } ∨ W' = ({ w5 with drawn := w5.drawn + 1 } : World).setCell ⟨gs, fr, none⟩ (.bool true)) → ∃ X : Keep w5 (fun b _ => b = bl), W' = X.w) := Lib.hid (by
          rintro W' (rfl | rfl)
          · exact ⟨⟨{ w5 with drawn := w5.drawn + 1 }, fun b o hb => rfl⟩, rfl⟩
          · exact ⟨⟨({ w5 with drawn := w5.drawn + 1 } : World).setCell ⟨gs, fr, none⟩ (.bool true), fun b o hb => by subst hb; exact (cell_other _ _ _ _ _ _ (.inl hg3)).trans rfl⟩, rfl⟩)
        refine wp_region_storeflow 18 16 _ (({ w5 with drawn := w5.drawn + 1 } : World).setCell ⟨gs, fr, none⟩ (.bool true)) (by kernel_rfl) (by kernel_rfl) rfl ?_
        apply Exists.intro
        refine ⟨fun W' hW' => ?_, ?_, ?_⟩
        · obtain ⟨X, hX⟩ := HK.out W' hW'
          subst hX
          rw [← keep1_class X]
          simp only [headsOf, List.take_succ_cons, List.drop_succ_cons, List.take_zero, List.drop_zero, Nat.reduceSub, List.cons_append, List.nil_append]
          repeat go_big_quiet_step (fail)
          exact wpQuiet_nil rfl
        · have zf2 : ({ w5 with drawn := w5.drawn + 1 } : World).frozen? ⟨gs, fr, none⟩ = false := zf fr
          have sx2 : ({ w5 with drawn := w5.drawn + 1 } : World).cell? ⟨gs, fr, none⟩ = some (.bool (seen.getD fr false)) := sx
          go_simp
          first | done | rfl
        simp only [Act.put, List.setIfInBounds_toArray, List.set_cons_succ, List.set_cons_zero, List.drop_succ_cons, List.drop_zero]
        generalize ({ w5 with drawn := w5.drawn + 1 } : World) = w6 at *
        clear zf sx z1 z2 e0 e1 e2 e3 e4 hblz HK
        have hwe := HWd.out.setSeen n1'
        have HW6 := Lib.hid (hwe.setBy n1' (-(j : Int) - 1))
        have cby := hwe.byc (List.getElem?_eq_getElem (show fr < bys.length by omega))
        have yf := hwe.byf
        obtain ⟨z1, z2⟩ := HWd.out.gsz
        have z3 := hwe.gsz.1
        clear hwe
        have hblz := HZ.out _ HWd.out.below
        have HW7 := Lib.hid (HW6.out.alloc (.cells #[.int .i64 (fr : Int)] 3))
        obtain ⟨e0, e1, e2, e3, e4⟩ := HCA.out _ HW6.out.below
        go_wp2_with (at_builtin; (refine wpList_pushB encI 1 8 22 3 _ Try.underlying22 Try.infoI rfl (by decide) (by decide) encI_len encI_one (outI ord) (fr : Int) Bw _ _ _ _ (row_here (by simp)) rfl _ HW7.out.work HW7.out.bsz HLEN.out rfl _ _ rfl rfl rfl ?_); intro v' w' hown' hg'; have HW8 := Lib.hid (HW7.out.push hown' hg'); clear hown' hg')
        rw [← HQ.out]
        have hnin : fr ∉ ord := fun h => by have h2 := HM.out.2 h; cases h2
        have hgd : GoodSt l to wo ((j, false), fr) := ⟨hjl, hjw, HAT.out.1, HAT.out.2.1, by rw [HAT.out.2.2]; simp; omega⟩
        refine ⟨rfl, _, seen.set fr true, bys.set fr (code (j, false)), [fr], fun i => [_, _, _, _, _, _, _, _, _, _, _, _, _, _, _, _, _, _, _, _, _, _, _, _, _, _, _, _, _, _, _, _, _, _, _, _, _, _, _, _, _, _, _, _, _, _, _, _, _, _, _, _, _, _, _, _].getD (i - 202) undef, rfl, HW8.out, HB.out.visit HV.out n1' hnin hgd, ?_⟩
        intro _ _; simp
      · have b3 : decide (lo < fl) = false := decide_eq_false hfl
        go_wp2_with fail
        go_quiet (fail)
        go_wp2_with fail
        rw [← HQ.out]
        refine ⟨rfl, _, seen, bys, [], fun i => [_, _, _, _, _, _, _, _, _, _, _, _, _, _, _, _, _, _, _, _, _, _, _, _, _, _, _, _, _, _, _, _, _, _, _, _, _, _, _, _, _, _, _, _, _, _, _, _, _, _, _, _, _, _, _, _].getD (i - 202) undef, rfl, ?_, ?_, ?_⟩
        · rw [List.append_nil]; exact HW.out.later (below_drewN (Below.refl _ _) nq)
        · rw [List.append_nil]; exact HB.out
        · intro _ h; exact absurd h (by omega)
  · have b1 : ((to : Int) == (v : Int)) = false := beq_eq_false_iff_ne.2 (by omega)
    go_wp2_with fail
    go_quiet (fail)
    go_wp2_with fail
    rw [← HQ.out]
    refine ⟨rfl, _, seen, bys, [], fun i => [_, _, _, _, _, _, _, _, _, _, _, _, _, _, _, _, _, _, _, _, _, _, _, _, _, _, _, _, _, _, _, _, _, _, _, _, _, _, _, _, _, _, _, _, _, _, _, _, _, _, _, _, _, _, _, _].getD (i - 202) undef, rfl, ?_, ?_, ?_⟩
    · rw [List.append_nil]; exact HW.out.later (below_drewN (Below.refl _ _) nq)
    · rw [List.append_nil]; exact HB.out
    · intro h; exact absurd h hfr
end Go.Proofs.Ytlakcghdehdeiaa

/- Walks: all arcs are looked at from one node. -/
namespace Go.Proofs.Ytlakcghdehdeiaa
open Go Go.Proofs Go.RowKit

set_option maxRecDepth 100000 in
set_option maxHeartbeats 1000000 in
theorem i93_walk (w wr : World) (n gs Bw : Nat) (l : List Ac) (wo : Int) (u v : Nat) (seen : List Bool) (bys : List Int) (ord : List Nat) (vw : Value) (a1 : Option Addr) (n1 : Nat) {q0 q2 q3 q5 q6 q7 q8 q9 q10 q11 q12 q16 q17 q19 q20 q21 q22 q23 q24 q25 q26 q27 q28 q29 q30 q31 q32 q33 q34 q35 q36 q37 q38 q39 q40 q41 q42 q43 q44 q45 q46 q47 q48 q49 q50 q51 q52 q53 q54 q55 q56 q57 q58 q59 q60 q61 q62 q63 q64 q65 q66 q67 q68 q69 q70 q71 q72 q73 q74 q75 q76 q77 q78 q79 q80 q81 q82 q83 q84 q85 q86 q87 q88 q89 q90 q91 q92 q93 q94 q95 q96 q97 q98 q99 q100 q101 q102 q103 q104 q105 q106 q107 q108 q109 q110 q111 q112 q113 q114 q115 q116 q117 q118 q119 q120 q121 q122 q123 q124 q125 q126 q127 q128 q129 q130 q131 q132 q133 q134 q135 q136 q137 q138 q139 q140 q141 q142 q143 q144 q145 q146 q147 q148 q149 q150 q151 q152 q153 q154 q155 q156 q157 q158 q159 q160 q161 q162 q163 q164 q165 q166 q167 q168 q169 q170 q171 q172 q173 q174 q175 q176 q177 q178 q179 q180 q181 q182 q183 q184 q185 q186 q187 q188 q189 q190 q191 q192 q193 q194 q195 q196 q197 q198 q199 q200 q201 q202 q203 q204 q205 q206 q207 q208 q209 q210 q211 q212 q213 q214 q215 q216 q217 q218 q219 q220 q221 q222 q223 q224 q225 q226 q227 q228 q229 q230 q231 q232 q233 q234 q235 q236 q237 q238 q239 q240 q241 q242 q243 q244 q245 q246 q247 q248 q249 q250 q251 q252 q253 q254 q255 q256 q257 : Value} (hA : 0 < l.length → ∃ bl ol, a1 = some ⟨bl, ol, none⟩ ∧ ArcAt w bl ol l) (hS : Small l 1000000000000) (hl : l.length ≤ 1000) (hn : n ≤ 1000) (hE : Ends n l) (hne : ∀ a ∈ l, a.fr ≠ a.to) (hw : WyW w wr n gs Bw seen bys ord vw) (hb : BfsR l wo u n seen bys ord) (hv : v ∈ ord) :
    i93.wp Try.prog (fun (e : Exit) (a : Act) (W' : World) => e = .normal ∧ ∃ (vw' : Value) (seen' : List Bool) (bys' : List Int) (ext : List Nat) (s21 : Value) (z : Nat → Value), a = { tmps := #[q0, .slice a1 l.length n1, q2, q3, .int .i64 wo, q5, q6, q7, q8, q9, q10, q11, q12, .slice (some ⟨w.heap.size, 0, none⟩) n n, .slice (some ⟨gs, 0, none⟩) n n, vw', q16, q17, .int .i64 (v : Nat), q19, q20, s21, q22, q23, q24, q25, q26, q27, q28, q29, q30, q31, q32, q33, q34, q35, q36, q37, q38, q39, q40, q41, q42, q43, q44, q45, q46, q47, q48, q49, q50, q51, q52, q53, q54, q55, q56, q57, q58, q59, q60, q61, q62, q63, q64, q65, q66, q67, q68, q69, q70, q71, q72, q73, q74, q75, q76, q77, q78, q79, q80, q81, q82, q83, q84, q85, q86, q87, q88, q89, q90, q91, q92, q93, q94, q95, q96, q97, q98, q99, q100, q101, q102, q103, q104, q105, q106, q107, q108, q109, q110, q111, q112, q113, q114, q115, q116, q117, q118, q119, q120, q121, q122, q123, q124, q125, q126, q127, q128, q129, q130, q131, q132, q133, q134, q135, q136, q137, z 138, z 139, z 140, z 141, z 142, z 143, z 144, z 145, z 146, z 147, z 148, z 149, z 150, z 151, z 152, z 153, z 154, z 155, z 156, z 157, z 158, z 159, z 160, z 161, z 162, z 163, z 164, z 165, z 166, z 167, z 168, z 169, z 170, z 171, z 172, z 173, z 174, z 175, z 176, z 177, z 178, z 179, z 180, z 181, z 182, z 183, z 184, z 185, z 186, z 187, z 188, z 189, z 190, z 191, z 192, z 193, z 194, z 195, z 196, z 197, z 198, z 199, z 200, z 201, z 202, z 203, z 204, z 205, z 206, z 207, z 208, z 209, z 210, z 211, z 212, z 213, z 214, z 215, z 216, z 217, z 218, z 219, z 220, z 221, z 222, z 223, z 224, z 225, z 226, z 227, z 228, z 229, z 230, z 231, z 232, z 233, z 234, z 235, z 236, z 237, z 238, z 239, z 240, z 241, z 242, z 243, z 244, z 245, z 246, z 247, z 248, z 249, z 250, z 251, z 252, z 253, z 254, z 255, z 256, z 257], defers := [] } ∧ WyW w W' n gs Bw seen' bys' (ord ++ ext) vw' ∧ BfsR l wo u n seen' bys' (ord ++ ext) ∧ DoneR l wo (ord ++ ext) v l.length) { tmps := #[q0, .slice a1 l.length n1, q2, q3, .int .i64 wo, q5, q6, q7, q8, q9, q10, q11, q12, .slice (some ⟨w.heap.size, 0, none⟩) n n, .slice (some ⟨gs, 0, none⟩) n n, vw, q16, q17, .int .i64 (v : Nat), q19, q20, q21, q22, q23, q24, q25, q26, q27, q28, q29, q30, q31, q32, q33, q34, q35, q36, q37, q38, q39, q40, q41, q42, q43, q44, q45, q46, q47, q48, q49, q50, q51, q52, q53, q54, q55, q56, q57, q58, q59, q60, q61, q62, q63, q64, q65, q66, q67, q68, q69, q70, q71, q72, q73, q74, q75, q76, q77, q78, q79, q80, q81, q82, q83, q84, q85, q86, q87, q88, q89, q90, q91, q92, q93, q94, q95, q96, q97, q98, q99, q100, q101, q102, q103, q104, q105, q106, q107, q108, q109, q110, q111, q112, q113, q114, q115, q116, q117, q118, q119, q120, q121, q122, q123, q124, q125, q126, q127, q128, q129, q130, q131, q132, q133, q134, q135, q136, q137, q138, q139, q140, q141, q142, q143, q144, q145, q146, q147, q148, q149, q150, q151, q152, q153, q154, q155, q156, q157, q158, q159, q160, q161, q162, q163, q164, q165, q166, q167, q168, q169, q170, q171, q172, q173, q174, q175, q176, q177, q178, q179, q180, q181, q182, q183, q184, q185, q186, q187, q188, q189, q190, q191, q192, q193, q194, q195, q196, q197, q198, q199, q200, q201, q202, q203, q204, q205, q206, q207, q208, q209, q210, q211, q212, q213, q214, q215, q216, q217, q218, q219, q220, q221, q222, q223, q224, q225, q226, q227, q228, q229, q230, q231, q232, q233, q234, q235, q236, q237, q238, q239, q240, q241, q242, q243, q244, q245, q246, q247, q248, q249, q250, q251, q252, q253, q254, q255, q256, q257], defers := [] } wr := by
  obtain ⟨Q, hQ⟩ : ∃ Q : Exit → Act → World → Prop, (fun (e : Exit) (a : Act) (W' : World) => e = .normal ∧ ∃ (vw' : Value) (seen' : List Bool) (bys' : List Int) (ext : List Nat) (s21 : Value) (z : Nat → Value), a = { tmps := #[q0, .slice a1 l.length n1, q2, q3, .int .i64 wo, q5, q6, q7, q8, q9, q10, q11, q12, .slice (some ⟨w.heap.size, 0, none⟩) n n, .slice (some ⟨gs, 0, none⟩) n n, vw', q16, q17, .int .i64 (v : Nat), q19, q20, s21, q22, q23, q24, q25, q26, q27, q28, q29, q30, q31, q32, q33, q34, q35, q36, q37, q38, q39, q40, q41, q42, q43, q44, q45, q46, q47, q48, q49, q50, q51, q52, q53, q54, q55, q56, q57, q58, q59, q60, q61, q62, q63, q64, q65, q66, q67, q68, q69, q70, q71, q72, q73, q74, q75, q76, q77, q78, q79, q80, q81, q82, q83, q84, q85, q86, q87, q88, q89, q90, q91, q92, q93, q94, q95, q96, q97, q98, q99, q100, q101, q102, q103, q104, q105, q106, q107, q108, q109, q110, q111, q112, q113, q114, q115, q116, q117, q118, q119, q120, q121, q122, q123, q124, q125, q126, q127, q128, q129, q130, q131, q132, q133, q134, q135, q136, q137, z 138, z 139, z 140, z 141, z 142, z 143, z 144, z 145, z 146, z 147, z 148, z 149, z 150, z 151, z 152, z 153, z 154, z 155, z 156, z 157, z 158, z 159, z 160, z 161, z 162, z 163, z 164, z 165, z 166, z 167, z 168, z 169, z 170, z 171, z 172, z 173, z 174, z 175, z 176, z 177, z 178, z 179, z 180, z 181, z 182, z 183, z 184, z 185, z 186, z 187, z 188, z 189, z 190, z 191, z 192, z 193, z 194, z 195, z 196, z 197, z 198, z 199, z 200, z 201, z 202, z 203, z 204, z 205, z 206, z 207, z 208, z 209, z 210, z 211, z 212, z 213, z 214, z 215, z 216, z 217, z 218, z 219, z 220, z 221, z 222, z 223, z 224, z 225, z 226, z 227, z 228, z 229, z 230, z 231, z 232, z 233, z 234, z 235, z 236, z 237, z 238, z 239, z 240, z 241, z 242, z 243, z 244, z 245, z 246, z 247, z 248, z 249, z 250, z 251, z 252, z 253, z 254, z 255, z 256, z 257], defers := [] } ∧ WyW w W' n gs Bw seen' bys' (ord ++ ext) vw' ∧ BfsR l wo u n seen' bys' (ord ++ ext) ∧ DoneR l wo (ord ++ ext) v l.length) = Q := ⟨_, rfl⟩
  rw [hQ]
  have HQ := Lib.hid hQ
  clear hQ
  obtain ⟨pf, hpf⟩ : ∃ p, p93f = p := ⟨_, rfl⟩
  obtain ⟨pb, hpb⟩ : ∃ p, p93b = p := ⟨_, rfl⟩
  have HPF := Lib.hid hpf
  have HPB := Lib.hid hpb
  simp only [p93f, b93c, i93, b93b, b93a, c93, Try.f93, Option.getD, codeL, codeR] at hpf
  simp only [p93b, b93c, i93, b93b, b93a, c93, Try.f93, Option.getD, codeL, codeR] at hpb
  have HA := Lib.hid hA
  have HS := Lib.hid hS
  have HE := Lib.hid hE
  have HNE := Lib.hid hne
  have HW0 := Lib.hid hw
  have HB0 := Lib.hid hb
  have HV := Lib.hid hv
  clear hA hS hE hne hw hb hv
  simp only [i93, b93b, b93a, c93, Try.f93, Option.getD, codeL, codeR]
  have HPF2 := Lib.hid hpf
  have HPB2 := Lib.hid hpb
  clear hpf hpb
  go_wp2_with fail
  go_loopw [21, 15] (fun i o wr => ∃ (j : Nat) (vw : Value) (seen : List Bool) (bys : List Int) (ext : List Nat), j ≤ l.length ∧ i = .int .i64 j ∧ o = vw ∧ WyW w wr n gs Bw seen bys (ord ++ ext) vw ∧ BfsR l wo u n seen bys (ord ++ ext) ∧ DoneR l wo (ord ++ ext) v j) (fun i _ _ => l.length - (intOf i).toNat)
  case atStart => exact ⟨0, _, _, _, [], by omega, rfl, rfl, by rw [List.append_nil]; exact HW0.out, by rw [List.append_nil]; exact HB0.out, DoneR.zero _ _ _ _⟩
  case round =>
    clear HW0 HB0
    obtain ⟨j, vw, seen, bys, ext, hj, rfl, rfl, hw, hb, hd⟩ := hrel
    have HW := Lib.hid hw
    have HB := Lib.hid hb
    have HD := Lib.hid hd
    clear hw hb hd
    by_cases hjl : j < l.length
    · by_cases hjw : (j : Int) = wo
      · have hjb : ((j : Int) == wo) = true := beq_iff_eq.2 hjw
        go_wp2_with fail
        go_roundw
        case rel => exact ⟨j + 1, _, _, _, ext, by omega, by go_num, rfl, HW.out, HB.out, HD.out.succ hjl (fun h => absurd hjw h) (fun h => absurd hjw h)⟩
        case measure => simp [intOf]; omega
      · have hjb : ((j : Int) == wo) = false := beq_eq_false_iff_ne.2 hjw
        rw [HPF2.out, HPB2.out]
        obtain ⟨bl, ol, rfl, hAA⟩ := HA.out (by omega)
        go_wp2_with fail
        obtain ⟨⟨fr, to, lo, hi, fl⟩, har⟩ : ∃ a, l[j] = a := ⟨_, rfl⟩
        have hat : l[j]? = some ⟨fr, to, lo, hi, fl⟩ := by rw [List.getElem?_eq_getElem hjl, har]
        have hends := HE.out l[j] (List.getElem_mem hjl)
        have hlo := HNE.out l[j] (List.getElem_mem hjl)
        rw [har] at hends hlo
        rw [← HPF.out]
        refine wp_mono (p93f_walk w _ n gs Bw l wo u v j _ _ _ _ bl ol n1 hAA HS.out hl hn HW.out HB.out hjw (List.mem_append_left _ HV.out) fr to lo hi fl hat hlo hends.1 hends.2) ?_
        rintro e a W2 ⟨rfl, vw2, seen2, bys2, ext2, z2, rfl, hw2, hb2, hf2⟩
        rw [List.append_assoc] at hw2 hb2 hf2
        have HW2 := Lib.hid hw2
        have HB2 := Lib.hid hb2
        have HF2 := Lib.hid hf2
        clear hw2 hb2 hf2
        go_wp2_with fail
        rw [← HPB.out]
        refine wp_mono (p93b_walk w _ n gs Bw l wo u v j _ _ _ _ bl ol n1 hAA HS.out hl hn HW2.out HB2.out hjw (List.mem_append_left _ HV.out) fr to lo hi fl hat hlo hends.1 hends.2) ?_
        rintro e a W3 ⟨rfl, vw3, seen3, bys3, ext3, z3, rfl, hw3, hb3, hf3⟩
        rw [List.append_assoc, List.append_assoc] at hw3 hb3 hf3
        have HW3 := Lib.hid hw3
        have HB3 := Lib.hid hb3
        have HF3 := Lib.hid hf3
        clear hw3 hb3 hf3
        go_wp2_with fail
        go_roundw
        case rel =>
          refine ⟨j + 1, _, seen3, bys3, ext ++ (ext2 ++ ext3), by omega, by go_num, rfl, HW3.out, HB3.out, ?_⟩
          have h1 : DoneR l wo (ord ++ (ext ++ (ext2 ++ ext3))) v j := by rw [← List.append_assoc]; exact HD.out.more _
          refine h1.succ hjl ?_ ?_
          · rw [har]; intro _ h2 h3
            have := HF2.out h2 h3
            simp only [List.mem_append] at this ⊢
            rcases this with h | h | h <;> simp [h]
          · rw [har]; intro _ h2 h3
            exact HF3.out h2 h3
        case measure => simp [intOf]; omega
    · obtain rfl : l.length = j := by omega
      go_wp2_with fail
      rw [← HQ.out]
      exact ⟨rfl, _, seen, bys, ext, _, fun i => [_, _, _, _, _, _, _, _, _, _, _, _, _, _, _, _, _, _, _, _, _, _, _, _, _, _, _, _, _, _, _, _, _, _, _, _, _, _, _, _, _, _, _, _, _, _, _, _, _, _, _, _, _, _, _, _, _, _, _, _, _, _, _, _, _, _, _, _, _, _, _, _, _, _, _, _, _, _, _, _, _, _, _, _, _, _, _, _, _, _, _, _, _, _, _, _, _, _, _, _, _, _, _, _, _, _, _, _, _, _, _, _, _, _, _, _, _, _, _, _].getD (i - 138) undef, rfl, HW.out, HB.out, HD.out⟩
end Go.Proofs.Ytlakcghdehdeiaa

/- Walks: the way is traced back. -/
namespace Go.Proofs.Ytlakcghdehdeiaa
open Go Go.Proofs Go.RowKit

set_option maxRecDepth 100000 in
set_option maxHeartbeats 1000000 in
theorem p93t_walk (w wr : World) (n gs Bw : Nat) (l : List Ac) (wo : Int) (u v : Nat) (seen : List Bool) (bys : List Int) (ord : List Nat) (vw : Value) (a1 : Option Addr) (n1 : Nat) (TL : List Bool) {q0 q2 q3 q4 q5 q6 q7 q8 q9 q10 q11 q12 q14 q15 q16 q17 q19 q20 q21 q22 q23 q24 q25 q26 q27 q28 q29 q30 q31 q32 q33 q34 q35 q36 q37 q38 q39 q40 q41 q42 q43 q44 q45 q46 q47 q48 q49 q50 q51 q52 q53 q54 q55 q56 q57 q58 q59 q60 q61 q62 q63 q64 q65 q66 q67 q68 q69 q70 q71 q72 q73 q74 q75 q76 q77 q78 q79 q80 q81 q82 q83 q84 q85 q86 q87 q88 q89 q90 q91 q92 q93 q94 q95 q96 q97 q98 q99 q100 q101 q102 q103 q104 q105 q106 q107 q108 q109 q110 q111 q112 q113 q114 q115 q116 q117 q118 q119 q120 q121 q122 q123 q124 q125 q126 q127 q128 q129 q130 q131 q132 q133 q134 q135 q136 q137 q138 q139 q140 q141 q142 q143 q144 q145 q146 q147 q148 q149 q150 q151 q152 q153 q154 q155 q156 q157 q158 q159 q160 q161 q162 q163 q164 q165 q166 q167 q168 q169 q170 q171 q172 q173 q174 q175 q176 q177 q178 q179 q180 q181 q182 q183 q184 q185 q186 q187 q188 q189 q190 q191 q192 q193 q194 q195 q196 q197 q198 q199 q200 q201 q202 q203 q204 q205 q206 q207 q208 q209 q210 q211 q212 q213 q214 q215 q216 q217 q218 q219 q220 q221 q222 q223 q224 q225 q226 q227 q228 q229 q230 q231 q232 q233 q234 q235 q236 q237 q238 q239 q240 q241 q242 q243 q244 q245 q246 q247 q248 q249 q250 q251 q252 q253 q254 q255 q256 q257 : Value} (hA : 0 < l.length → ∃ bl ol, a1 = some ⟨bl, ol, none⟩ ∧ ArcAt w bl ol l) (hS : Small l 1000000000000) (hl : l.length ≤ 1000) (hn : n ≤ 1000) (hu : u < n) (hw : WyW w wr n gs Bw seen bys ord vw) (hb : BfsR l wo u n seen bys ord) (hvm : v ∈ ord) (htv : TL.getD v false = true) :
    p93t.wp Try.prog (fun (e : Exit) (a : Act) (W' : World) => e = .ret ∧ ∃ (vo : Value) (out : List Int) (most : Int) (s18 : Value) (s19 : Value) (s20 : Value) (z : Nat → Value), a = { tmps := #[q0, .slice a1 l.length n1, q2, q3, q4, q5, q6, q7, q8, q9, vo, .int .i64 most, .bool true, .slice (some ⟨w.heap.size, 0, none⟩) n n, q14, q15, q16, q17, s18, s19, s20, q21, q22, q23, q24, q25, q26, q27, q28, q29, q30, q31, q32, q33, q34, q35, q36, q37, q38, q39, q40, q41, q42, q43, q44, q45, q46, q47, q48, q49, q50, q51, q52, q53, q54, q55, z 56, z 57, z 58, z 59, z 60, z 61, z 62, z 63, z 64, z 65, z 66, z 67, z 68, z 69, z 70, z 71, z 72, z 73, z 74, z 75, z 76, z 77, z 78, z 79, z 80, z 81, z 82, z 83, z 84, z 85, z 86, z 87, z 88, z 89, z 90, z 91, z 92, z 93, z 94, z 95, z 96, z 97, z 98, z 99, z 100, z 101, z 102, z 103, z 104, z 105, z 106, z 107, z 108, z 109, z 110, z 111, z 112, z 113, z 114, z 115, z 116, z 117, z 118, z 119, z 120, z 121, z 122, z 123, z 124, z 125, z 126, z 127, z 128, z 129, z 130, z 131, z 132, z 133, z 134, z 135, z 136, z 137, q138, q139, q140, q141, q142, q143, q144, q145, q146, q147, q148, q149, q150, q151, q152, q153, q154, q155, q156, q157, q158, q159, q160, q161, q162, q163, q164, q165, q166, q167, q168, q169, q170, q171, q172, q173, q174, q175, q176, q177, q178, q179, q180, q181, q182, q183, q184, q185, q186, q187, q188, q189, q190, q191, q192, q193, q194, q195, q196, q197, q198, q199, q200, q201, q202, q203, q204, q205, q206, q207, q208, q209, q210, q211, q212, q213, q214, q215, q216, q217, q218, q219, q220, q221, q222, q223, q224, q225, q226, q227, q228, q229, q230, q231, q232, q233, q234, q235, q236, q237, q238, q239, q240, q241, q242, q243, q244, q245, q246, q247, q248, q249, q250, q251, q252, q253, q254, q255, q256, q257], defers := [] } ∧ Own encI 1 3 W' w.heap.size vo out ∧ Below w.heap.size w W' ∧ WayR l wo u n TL out most true) { tmps := #[q0, .slice a1 l.length n1, q2, q3, q4, q5, q6, q7, q8, q9, q10, q11, q12, .slice (some ⟨w.heap.size, 0, none⟩) n n, q14, q15, q16, q17, .int .i64 (v : Nat), q19, q20, q21, q22, q23, q24, q25, q26, q27, q28, q29, q30, q31, q32, q33, q34, q35, q36, q37, q38, q39, q40, q41, q42, q43, q44, q45, q46, q47, q48, q49, q50, q51, q52, q53, q54, q55, q56, q57, q58, q59, q60, q61, q62, q63, q64, q65, q66, q67, q68, q69, q70, q71, q72, q73, q74, q75, q76, q77, q78, q79, q80, q81, q82, q83, q84, q85, q86, q87, q88, q89, q90, q91, q92, q93, q94, q95, q96, q97, q98, q99, q100, q101, q102, q103, q104, q105, q106, q107, q108, q109, q110, q111, q112, q113, q114, q115, q116, q117, q118, q119, q120, q121, q122, q123, q124, q125, q126, q127, q128, q129, q130, q131, q132, q133, q134, q135, q136, q137, q138, q139, q140, q141, q142, q143, q144, q145, q146, q147, q148, q149, q150, q151, q152, q153, q154, q155, q156, q157, q158, q159, q160, q161, q162, q163, q164, q165, q166, q167, q168, q169, q170, q171, q172, q173, q174, q175, q176, q177, q178, q179, q180, q181, q182, q183, q184, q185, q186, q187, q188, q189, q190, q191, q192, q193, q194, q195, q196, q197, q198, q199, q200, q201, q202, q203, q204, q205, q206, q207, q208, q209, q210, q211, q212, q213, q214, q215, q216, q217, q218, q219, q220, q221, q222, q223, q224, q225, q226, q227, q228, q229, q230, q231, q232, q233, q234, q235, q236, q237, q238, q239, q240, q241, q242, q243, q244, q245, q246, q247, q248, q249, q250, q251, q252, q253, q254, q255, q256, q257], defers := [] } wr := by
  obtain ⟨Q, hQ⟩ : ∃ Q : Exit → Act → World → Prop, (fun (e : Exit) (a : Act) (W' : World) => e = .ret ∧ ∃ (vo : Value) (out : List Int) (most : Int) (s18 : Value) (s19 : Value) (s20 : Value) (z : Nat → Value), a = { tmps := #[q0, .slice a1 l.length n1, q2, q3, q4, q5, q6, q7, q8, q9, vo, .int .i64 most, .bool true, .slice (some ⟨w.heap.size, 0, none⟩) n n, q14, q15, q16, q17, s18, s19, s20, q21, q22, q23, q24, q25, q26, q27, q28, q29, q30, q31, q32, q33, q34, q35, q36, q37, q38, q39, q40, q41, q42, q43, q44, q45, q46, q47, q48, q49, q50, q51, q52, q53, q54, q55, z 56, z 57, z 58, z 59, z 60, z 61, z 62, z 63, z 64, z 65, z 66, z 67, z 68, z 69, z 70, z 71, z 72, z 73, z 74, z 75, z 76, z 77, z 78, z 79, z 80, z 81, z 82, z 83, z 84, z 85, z 86, z 87, z 88, z 89, z 90, z 91, z 92, z 93, z 94, z 95, z 96, z 97, z 98, z 99, z 100, z 101, z 102, z 103, z 104, z 105, z 106, z 107, z 108, z 109, z 110, z 111, z 112, z 113, z 114, z 115, z 116, z 117, z 118, z 119, z 120, z 121, z 122, z 123, z 124, z 125, z 126, z 127, z 128, z 129, z 130, z 131, z 132, z 133, z 134, z 135, z 136, z 137, q138, q139, q140, q141, q142, q143, q144, q145, q146, q147, q148, q149, q150, q151, q152, q153, q154, q155, q156, q157, q158, q159, q160, q161, q162, q163, q164, q165, q166, q167, q168, q169, q170, q171, q172, q173, q174, q175, q176, q177, q178, q179, q180, q181, q182, q183, q184, q185, q186, q187, q188, q189, q190, q191, q192, q193, q194, q195, q196, q197, q198, q199, q200, q201, q202, q203, q204, q205, q206, q207, q208, q209, q210, q211, q212, q213, q214, q215, q216, q217, q218, q219, q220, q221, q222, q223, q224, q225, q226, q227, q228, q229, q230, q231, q232, q233, q234, q235, q236, q237, q238, q239, q240, q241, q242, q243, q244, q245, q246, q247, q248, q249, q250, q251, q252, q253, q254, q255, q256, q257], defers := [] } ∧ Own encI 1 3 W' w.heap.size vo out ∧ Below w.heap.size w W' ∧ WayR l wo u n TL out most true) = Q := ⟨_, rfl⟩
  rw [hQ]
  have HQ := Lib.hid hQ
  clear hQ
  have hvn := hb.lt _ hvm
  obtain ⟨p, p1, p2, p3, p4, p5⟩ := hb.way (ord.idxOf v + 1) v hvm (by omega)
  have hnd := (Wy.nodup (rk := fun x => ord.idxOf x) p2 p3).1
  have hpl : p.length < n := by
    have h1 := List.idxOf_lt_length_of_mem hvm
    have h2 := hb.count
    omega
  have HTR := Lib.hid hw.trace
  have HROOT := Lib.hid hb.root
  have HP1 := Lib.hid p1
  have HP2 := Lib.hid p2
  have HP3 := Lib.hid p3
  have HP4 := Lib.hid p4
  have HND := Lib.hid hnd
  have HTV := Lib.hid htv
  have HA := Lib.hid hA
  have HS := Lib.hid hS
  clear p1 p2 p3 p4 p5 hnd htv hA hS hw hb hvm
  simp only [p93t, b93b, b93a, c93, Try.f93, Option.getD, codeL, codeR]
  go_wp2_with fail
  go_loopw [18, 19, 20] (fun a o m wr => ∃ (x : Nat) (rest done : List St) (vo : Value) (mm : Int), a = .int .i64 x ∧ o = vo ∧ m = .int .i64 mm ∧ done ++ rest = p ∧ TraceR l bys u x rest ∧ (∀ s ∈ rest, ord.idxOf (tailOf l s) < ord.idxOf (headOf l s)) ∧ Wy l wo x rest u ∧ least l rest mm = least l p 3999999996 ∧ -10000000000000 ≤ mm ∧ mm ≤ 3999999996 ∧ TrW w wr n Bw bys vo (done.map code)) (fun a _ _ _ => ord.idxOf (intOf a).toNat)
  case atStart => exact ⟨v, p, [], _, _, rfl, rfl, rfl, rfl, HP1.out, HP3.out, HP2.out, rfl, by omega, by omega, HTR.out⟩
  case round =>
    clear HTR HP1 HP3
    obtain ⟨x, rest, done, vo, mm, rfl, rfl, rfl, hpe, t1, t2, t3, hM, m0, m1, htr⟩ := hrel
    cases rest with
    | nil =>
      have hxu : x = u := t1
      subst hxu
      have cb := htr.byc HROOT.out
      have hsz : w.heap.size < wr.heap.size := by have := htr.b1; have := htr.bsz; omega
      have HT := Lib.hid htr
      have HM := Lib.hid hM
      have HPE := Lib.hid hpe
      clear htr hM hpe t2 t3
      go_wp2_with fail
      rw [← HQ.out]
      refine ⟨rfl, _, done.map code, _, _, _, _, fun i => [_, _, _, _, _, _, _, _, _, _, _, _, _, _, _, _, _, _, _, _, _, _, _, _, _, _, _, _, _, _, _, _, _, _, _, _, _, _, _, _, _, _, _, _, _, _, _, _, _, _, _, _, _, _, _, _, _, _, _, _, _, _, _, _, _, _, _, _, _, _, _, _, _, _, _, _, _, _, _, _, _, _].getD (i - 56) undef, rfl, HT.out.own.lower (by have := HT.out.b1; omega), HT.out.below, .inl ⟨rfl, p, v, ?_, HTV.out, hvn, HP2.out, HND.out, HP4.out, hpl, HM.out⟩⟩
      rw [← HPE.out, List.append_nil]
    | cons s rest =>
      obtain ⟨hxu, hby, hsl, t1⟩ := t1
      obtain ⟨_, _, hhd, t3⟩ := t3
      have cb := htr.byc hby
      have hsz : w.heap.size < wr.heap.size := by have := htr.b1; have := htr.bsz; omega
      have hxn : x < n := by have h1 := (List.getElem?_eq_some_iff.1 hby).1; have h2 := htr.bn; omega
      obtain ⟨bl, ol, rfl, hA⟩ := HA.out (by omega)
      have hbl := hA.lt
      obtain ⟨i, f⟩ := s
      obtain ⟨ar, har⟩ : ∃ a, l[i]? = some a := ⟨_, List.getElem?_eq_getElem hsl⟩
      have ca := hA.c htr.below har
      have hblz : bl < wr.heap.size := hA.z htr.below
      obtain ⟨g1, g2, g3⟩ := headOf_at har f
      have hidx := t2 (i, f) (by simp)
      have t2' : ∀ s ∈ rest, ord.idxOf (tailOf l s) < ord.idxOf (headOf l s) := fun s hs => t2 s (by simp [hs])
      have hM2 : least l rest (min mm (roomOf l (i, f))) = least l p 3999999996 := hM
      have hbd := HS.out ar (List.mem_of_getElem? har)
      have HCA := Lib.hid (fun (W : World) (hb : Below w.heap.size w W) => hA.c hb har)
      rw [hhd, g2] at hidx
      rw [g2] at t1 t3
      rw [g3] at hM2
      obtain ⟨fr, to, lo, hi, fl⟩ := ar
      dsimp only at *
      obtain ⟨e0, e1, e2, e3, e4⟩ := ca
      obtain ⟨q4', q5', q6', q7', q8', q9'⟩ := hbd
      have HT := Lib.hid htr
      have HM := Lib.hid hM2
      have HPE := Lib.hid hpe
      have HT1 := Lib.hid t1
      have HT2 := Lib.hid t2'
      have HID := Lib.hid hidx
      have HBY := Lib.hid hby
      have HW3 := Lib.hid t3
      have HLEN := Lib.hid (show (done.map code).length ≤ 1000000 by
        have h := congrArg List.length HPE.out
        simp at h ⊢
        omega)
      clear htr hM hM2 hpe t1 t2 t2' t3 g1 g2 g3 hidx hby hhd hA har
      cases f
      · rw [code_bwd] at cb HBY
        have kk : -(-(i : Int) - 1) - 1 = i := by omega
        have kd : (-(i : Int) - 1 == 0) = false := beq_eq_false_iff_ne.2 (by omega)
        have kd2 : decide (0 < -(i : Int) - 1) = false := decide_eq_false (by omega)
        have HTA := Lib.hid (HT.out.alloc (.cells #[.int .i64 (-(i : Int) - 1)] 3))
        go_wp2_with (at_builtin; (refine wpList_pushB encI 1 8 22 3 _ Try.underlying22 Try.infoI rfl (by decide) (by decide) encI_len encI_one (done.map code) (-(i : Int) - 1) Bw _ _ _ _ (row_here (by simp)) rfl _ HTA.out.own HTA.out.bsz HLEN.out rfl _ _ rfl rfl rfl ?_); intro v' w' hown' hg'; have htr' := HTA.out.push hown' hg'; have cb' := htr'.byc HBY.out; obtain ⟨r0, r1, r2, r3, r4⟩ := HCA.out _ htr'.below; have hz1 : w.heap.size < w'.heap.size := Nat.lt_of_lt_of_le htr'.b1 htr'.bsz; have hz2 : bl < w'.heap.size := Nat.lt_of_lt_of_le hbl htr'.below.size; have HT' := Lib.hid htr'; clear hown' hg' htr')
        clear cb e0 e1 e2 e3 e4
        go_quiet (fail)
        have HT3 := Lib.hid (HT'.out.later (below_drewN (Below.refl _ _) nq))
        generalize w'.drewN nq = w4 at *
        clear cb' r0 r1 r2 r3 r4 hz1 hz2
        have cb' := HT3.out.byc HBY.out
        obtain ⟨r0, r1, r2, r3, r4⟩ := HCA.out _ HT3.out.below
        have hz1 : w.heap.size < w4.heap.size := Nat.lt_of_lt_of_le HT3.out.b1 HT3.out.bsz
        have hz2 : bl < w4.heap.size := Nat.lt_of_lt_of_le hbl HT3.out.below.size
        go_wp2_with fail
        go_roundw
        case rel =>
          refine ⟨to, rest, done ++ [(i, false)], _, _, rfl, rfl, rfl, by simpa using HPE.out, HT1.out, HT2.out, HW3.out, (Eq.trans ?_ HM.out), ?_, ?_, ?_⟩
          · have e : (if fl - lo < mm then fl - lo else mm) = min mm (fl - lo) := by rw [Int.min_def]; split <;> split <;> omega
            rw [e]; simp
          · split <;> omega
          · split <;> omega
          · rw [List.map_append]; exact HT3.out
        case measure => simp [intOf]; exact HID.out
      · rw [code_fwd] at cb HBY
        have kk : (i : Int) + 1 - 1 = i := by omega
        have kd : ((i : Int) + 1 == 0) = false := beq_eq_false_iff_ne.2 (by omega)
        have kd2 : decide (0 < (i : Int) + 1) = true := decide_eq_true (by omega)
        have HTA := Lib.hid (HT.out.alloc (.cells #[.int .i64 ((i : Int) + 1)] 3))
        go_wp2_with (at_builtin; (refine wpList_pushB encI 1 8 22 3 _ Try.underlying22 Try.infoI rfl (by decide) (by decide) encI_len encI_one (done.map code) ((i : Int) + 1) Bw _ _ _ _ (row_here (by simp)) rfl _ HTA.out.own HTA.out.bsz HLEN.out rfl _ _ rfl rfl rfl ?_); intro v' w' hown' hg'; have htr' := HTA.out.push hown' hg'; have cb' := htr'.byc HBY.out; obtain ⟨r0, r1, r2, r3, r4⟩ := HCA.out _ htr'.below; have hz1 : w.heap.size < w'.heap.size := Nat.lt_of_lt_of_le htr'.b1 htr'.bsz; have hz2 : bl < w'.heap.size := Nat.lt_of_lt_of_le hbl htr'.below.size; have HT' := Lib.hid htr'; clear hown' hg' htr')
        clear cb e0 e1 e2 e3 e4
        go_quiet (fail)
        have HT3 := Lib.hid (HT'.out.later (below_drewN (Below.refl _ _) nq))
        generalize w'.drewN nq = w4 at *
        clear cb' r0 r1 r2 r3 r4 hz1 hz2
        have cb' := HT3.out.byc HBY.out
        obtain ⟨r0, r1, r2, r3, r4⟩ := HCA.out _ HT3.out.below
        have hz1 : w.heap.size < w4.heap.size := Nat.lt_of_lt_of_le HT3.out.b1 HT3.out.bsz
        have hz2 : bl < w4.heap.size := Nat.lt_of_lt_of_le hbl HT3.out.below.size
        go_wp2_with fail
        go_roundw
        case rel =>
          refine ⟨fr, rest, done ++ [(i, true)], _, _, rfl, rfl, rfl, by simpa using HPE.out, HT1.out, HT2.out, HW3.out, (Eq.trans ?_ HM.out), ?_, ?_, ?_⟩
          · have e : (if hi - fl < mm then hi - fl else mm) = min mm (hi - fl) := by rw [Int.min_def]; split <;> split <;> omega
            rw [e]; simp
          · split <;> omega
          · split <;> omega
          · rw [List.map_append]; exact HT3.out
        case measure => simp [intOf]; exact HID.out
end Go.Proofs.Ytlakcghdehdeiaa

/- Walks: the reference's way. -/
namespace Go.Proofs.Ytlakcghdehdeiaa
open Go Go.Proofs Go.RowKit

def WayPost (w : World) (l : List Ac) (wo : Int) (u n : Nat) (TL : List Bool) (e : Ending) (w' : World) : Prop :=
  ∃ vo out most ok, e = .returned (.tuple #[vo, .int .i64 most, .bool ok]) ∧ Own encI 1 3 w' w.heap.size vo out ∧ Below w.heap.size w w' ∧ WayR l wo u n TL out most ok

set_option maxRecDepth 100000 in
set_option maxHeartbeats 1000000 in
theorem way93 (w : World) (v vf vt : Value) (l : List Ac) (wo : Int) (u n : Nat) (FL TL : List Bool) (hv : Sl Ac.encR 5 w w.heap.size v l) (hf : Sl encB 1 w w.heap.size vf FL) (ht : Sl encB 1 w w.heap.size vt TL)
    (hFn : FL.length = n) (hTn : TL.length = n) (hF : ∀ x (h : x < FL.length), FL[x] = decide (x = u)) (hu : u < n) (hl : l.length ≤ 1000) (hn : n ≤ 1000) (hE : Ends n l) (hne : ∀ a ∈ l, a.fr ≠ a.to) (hs : Small l 1000000000000) :
    Calls Try.prog 93 #[.int .i64 n, v, vf, vt, .int .i64 wo] w (WayPost w l wo u n TL) := by
  obtain ⟨a1, n1, hv1, hl1, hA1⟩ := hv
  obtain ⟨a2, n2, hv2, hl2, hA2⟩ := hf
  obtain ⟨a3, n3, hv3, hl3, hA3⟩ := ht
  subst hv1 hv2 hv3
  rw [hFn, hTn]
  replace hA2 : 0 < n → ∃ b off, a2 = some ⟨b, off, none⟩ ∧ b < w.heap.size ∧ ∀ i (h : i < FL.length), At w b (off + i * 1) (encB FL[i]) := fun h => hA2 (by omega)
  replace hA3 : 0 < n → ∃ b off, a3 = some ⟨b, off, none⟩ ∧ b < w.heap.size ∧ ∀ i (h : i < TL.length), At w b (off + i * 1) (encB TL[i]) := fun h => hA3 (by omega)
  have HA : Hid (0 < l.length → ∃ bl ol, a1 = some ⟨bl, ol, none⟩ ∧ ArcAt w bl ol l) := Lib.hid (fun h => by
    obtain ⟨bl, ol, e, h1, h2⟩ := hA1 h
    exact ⟨bl, ol, e, h1, h2⟩)
  clear hA1
  have HA2 := Lib.hid hA2
  clear hA2
  have HA3 := Lib.hid hA3
  clear hA3
  have HF := Lib.hid hF
  have HE := Lib.hid hE
  have HNE := Lib.hid hne
  have HS := Lib.hid hs
  have HFN := Lib.hid hFn
  have HTN := Lib.hid hTn
  clear hE hne hs hF hl2 hl3 hFn hTn
  obtain ⟨pt, hpt⟩ : ∃ p, p93t = p := ⟨_, rfl⟩
  obtain ⟨pi, hpi⟩ : ∃ p, i93 = p := ⟨_, rfl⟩
  have HPT := Lib.hid hpt
  have HPI := Lib.hid hpi
  simp only [p93t, b93b, b93a, c93, Try.f93, Option.getD, codeL, codeR] at hpt
  simp only [i93, b93b, b93a, c93, Try.f93, Option.getD, codeL, codeR] at hpi
  have HPT2 := Lib.hid hpt
  have HPI2 := Lib.hid hpi
  clear hpt hpi
  go_enter Try.func93, Try.ntmps93
  go_wp2_with (first | (refine wpList_mk1 encI 0 (.int .i64 0) rfl 22 3 8 Try.underlying22 Try.infoI rfl (by decide) w.heap.size w n (by omega) (Nat.le_refl _) rfl _ _ rfl .i64 .i64 rfl rfl ?_; intro w2 hown2 hgr2; have HO2 := Lib.hid hown2; have HG2 := Lib.hid hgr2; clear hown2 hgr2) | (refine wpList_mk1 encB false (.bool false) rfl 112 4 1 Try.underlying112 Try.infoB rfl (by decide) w.heap.size w2 n (by omega) (grown_none_below HG2.out).size rfl _ _ rfl .i64 .i64 rfl rfl ?_; intro w3 hown3 hgr3; have HO3 := Lib.hid hown3; have HG3 := Lib.hid hgr3; clear hown3 hgr3))
  have HW0 : Hid (WyW w w3 n w2.heap.size w3.heap.size (List.replicate n false) (List.replicate n 0) [] (.slice none 0 0)) := Lib.hid ⟨(grown_none_below HG2.out).trans ((grown_none_below HG3.out).mono (grown_none_below HG2.out).size), HO2.out.later (grown_none_below HG3.out), HO3.out, Own.nil _ _ _ _ _, by simp, by simp, (World.ownsRow.lt HO2.out _ rfl).2, (World.ownsRow.lt HO3.out _ rfl).2, Nat.le_refl _⟩
  clear HO2 HG2 HO3 HG3
  generalize w2.heap.size = gs at *
  obtain ⟨Bw, hBw⟩ : ∃ B, w3.heap.size = B := ⟨_, rfl⟩
  rw [hBw] at HW0
  clear hBw
  go_loopw [16, 15] (fun i o wr => ∃ (k : Nat) (vw : Value) (seen : List Bool) (ord : List Nat), k ≤ n ∧ i = .int .i64 k ∧ o = vw ∧ WyW w wr n gs Bw seen (List.replicate n 0) ord vw ∧ ((k ≤ u ∧ seen = List.replicate n false ∧ ord = []) ∨ (u < k ∧ seen = (List.replicate n false).set u true ∧ ord = [u]))) (fun i _ _ => n - (intOf i).toNat)
  case atStart => exact ⟨0, _, _, _, by omega, rfl, rfl, HW0.out, .inl ⟨by omega, rfl, rfl⟩⟩
  case round =>
    clear HW0
    obtain ⟨k, vw, seen, ord, hk, rfl, rfl, hw, hor⟩ := hrel
    obtain ⟨aw, cw, hsh⟩ := hw.shape
    subst hsh
    by_cases hlt : k < n
    · obtain ⟨bb, off, rfl, hbb, hcells⟩ := HA2.out (by omega)
      have hkF : k < FL.length := by rw [HFN.out]; exact hlt
      have c0 := ((hcells k hkF).below hw.below hbb).c1
      rw [HF.out k hkF, Nat.mul_one] at c0
      obtain ⟨z1, z2⟩ := hw.gsz
      have zf := hw.seenf
      have zc := hw.seenc hlt
      have HW := Lib.hid hw
      have HOR := Lib.hid hor
      clear hcells hw hor
      by_cases hku : k = u
      · subst hku
        rw [decide_eq_true rfl] at c0
        obtain ⟨_, rfl, rfl⟩ | ⟨h, _⟩ := HOR.out
        · have HW2 := Lib.hid ((HW.out.setSeen hlt).alloc (.cells #[.int .i64 (k : Int)] 3))
          go_wp2_with (at_builtin; (refine wpList_pushB encI 1 8 22 3 _ Try.underlying22 Try.infoI rfl (by decide) (by decide) encI_len encI_one (outI []) (k : Int) Bw _ _ _ _ (row_here (by simp)) rfl _ HW2.out.work HW2.out.bsz (by simp) rfl _ _ rfl rfl rfl ?_); intro v' w' hown' hg')
          go_roundw
          case rel => exact ⟨k + 1, _, _, _, by omega, by go_num, rfl, HW2.out.push hown' hg', .inr ⟨by omega, rfl, rfl⟩⟩
          case measure => simp [intOf]; omega
        · omega
      · rw [decide_eq_false hku] at c0
        go_wp2_with fail
        go_roundw
        case rel => exact ⟨k + 1, _, _, _, by omega, by go_num, rfl, HW.out, HOR.out.imp (fun ⟨a, b, c⟩ => ⟨by omega, b, c⟩) (fun ⟨a, b, c⟩ => ⟨by omega, b, c⟩)⟩
        case measure => simp [intOf]; omega
    · obtain rfl : n = k := by omega
      obtain ⟨h, _⟩ | ⟨_, rfl, rfl⟩ := hor
      · omega
      have HW := Lib.hid hw
      have HB := Lib.hid (BfsR.start l wo u n hu)
      clear hw
      go_wp2_with fail
      go_loopw [17, 15] (fun i o wr => ∃ (k : Nat) (vw : Value) (seen : List Bool) (bys : List Int) (ord : List Nat), k ≤ ord.length ∧ i = .int .i64 k ∧ o = vw ∧ WyW w wr n gs Bw seen bys ord vw ∧ BfsR l wo u n seen bys ord ∧ (∀ j (h : j < ord.length), j < k → DoneR l wo ord ord[j] l.length ∧ TL.getD ord[j] false = false)) (fun i _ _ => n - (intOf i).toNat)
      case atStart => exact ⟨0, _, _, _, _, by omega, rfl, rfl, HW.out, HB.out, fun _ _ h => by omega⟩
      case round =>
        clear HW HB hlt hk
        obtain ⟨k, vw, seen, bys, ord, hk, rfl, rfl, hw, hb, hd⟩ := hrel
        by_cases hlt : k < ord.length
        · obtain ⟨gw, cw2, hsh, hgw, hgwz⟩ := hw.form (by omega)
          subst hsh
          have cw0 := hw.workc hlt
          have hvm := List.getElem_mem hlt
          have hvn := hb.lt _ hvm
          have hkn : k < n := by have h := hb.count; omega
          obtain ⟨v, hve⟩ : ∃ v, ord[k] = v := ⟨_, rfl⟩
          rw [hve] at cw0 hvm hvn
          have HVE := Lib.hid hve
          clear hve
          obtain ⟨bt, ot, rfl, hbt, htc⟩ := HA3.out (by omega)
          have hvT : v < TL.length := by rw [HTN.out]; exact hvn
          have ct := ((htc v hvT).below hw.below hbt).c1
          rw [Nat.mul_one] at ct
          have hbtz : bt < wr.heap.size := by have := hw.below.size; omega
          have HW := Lib.hid hw
          have HB := Lib.hid hb
          have HD := Lib.hid hd
          have HVM := Lib.hid hvm
          have HGD : Hid (TL.getD v false = TL[v]) := Lib.hid (by rw [List.getD_eq_getElem?_getD, List.getElem?_eq_getElem hvT]; rfl)
          clear hw hb hd htc hvm
          rw [HPT2.out, HPI2.out]
          by_cases htv : TL[v] = true
          · rw [htv] at ct HGD
            go_wp2_with fail
            rw [← HPT.out]
            refine wp_mono (p93t_walk w _ n gs Bw l wo u v _ _ _ _ a1 n1 TL HA.out HS.out hl hn hu HW.out HB.out HVM.out HGD.out) ?_
            rintro e a W2 ⟨rfl, vo, out, most, s18, s19, s20, z, rfl, ho, hbe, hway⟩
            have HO := Lib.hid ho
            have HBE := Lib.hid hbe
            have HWY := Lib.hid hway
            clear ho hbe hway
            go_wp2_with fail
            go_ret3
            exact ⟨_, out, _, _, rfl, HO.out, HBE.out, HWY.out⟩
          · have htv := eq_false_of_ne_true htv
            rw [htv] at ct HGD
            go_wp2_with fail
            rw [← HPI.out]
            refine wp_mono (i93_walk w _ n gs Bw l wo u v _ _ _ _ a1 n1 HA.out HS.out hl hn HE.out HNE.out HW.out HB.out HVM.out) ?_
            rintro e a W2 ⟨rfl, vw2, seen2, bys2, ext2, s21, z, rfl, hw2, hb2, hd2⟩
            have HW2 := Lib.hid hw2
            have HB2 := Lib.hid hb2
            have HD2 := Lib.hid hd2
            clear hw2 hb2 hd2
            go_wp2_with fail
            go_roundw
            case rel =>
              refine ⟨k + 1, _, seen2, bys2, ord ++ ext2, by simp; omega, by go_num, rfl, HW2.out, HB2.out, fun i hi hik => ?_⟩
              by_cases hik2 : i < k
              · have hio : i < ord.length := by omega
                rw [List.getElem_append_left hio]
                obtain ⟨g1, g2⟩ := HD.out i hio hik2
                exact ⟨g1.more _, g2⟩
              · obtain rfl : i = k := by omega
                rw [List.getElem_append_left hlt, HVE.out]
                exact ⟨HD2.out, HGD.out⟩
            case measure => simp [intOf]; omega
        · obtain rfl : ord.length = k := by omega
          obtain ⟨aw, cw, hsh⟩ := hw.shape
          subst hsh
          have HW := Lib.hid hw
          have HB := Lib.hid hb
          have HD := Lib.hid hd
          clear hw hb hd
          go_wp2_with fail
          go_ret3
          refine ⟨_, [], _, _, rfl, Own.nil _ _ _ _ _, HW.out.below, wayR_none HB.out HE.out ?_ ?_⟩
          · intro v hv
            obtain ⟨j, hj, rfl⟩ := List.mem_iff_getElem.1 hv
            exact (HD.out j hj hj).1
          · intro v hv
            obtain ⟨j, hj, rfl⟩ := List.mem_iff_getElem.1 hv
            exact (HD.out j hj hj).2
end Go.Proofs.Ytlakcghdehdeiaa
