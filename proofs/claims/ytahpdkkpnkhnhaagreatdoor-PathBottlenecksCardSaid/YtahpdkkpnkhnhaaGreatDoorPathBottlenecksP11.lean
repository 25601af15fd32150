/- Lemmas on the way to the law PathBottlenecks (part 11): Vk -/
import Derived.Test.YtahpdkkpnkhnhaaGreatDoorPathBottlenecksP10
import Derived.RegionTactic
import Derived.BigRegion
set_option linter.unusedVariables false
set_option linter.unusedSimpArgs false

/- Walks: one edge in the reference's search. -/
namespace Go.Proofs.YtahpdkkpnkhnhaaGreatDoor
open Go Go.Proofs Go.RowKit Go.Shelf
theorem cell_other (w : World) (b o b' o' : Nat) (v : Value) (h : b ≠ b' ∨ o ≠ o') : (w.setCell ⟨b, o, none⟩ v).cell? ⟨b', o', none⟩ = w.cell? ⟨b', o', none⟩ :=
  World.cell?_setCell_other _ _ _ _ (by intro e; injection e with e1 e2; rcases h with h | h; exact h e1; exact h e2)
noncomputable def c125 : Code := Tryz.f125.body.getD .skip
noncomputable def lq125 : Code := codeR (codeL (codeR (codeR (codeR (codeR (codeR c125))))))
noncomputable def b125 : Code := codeL (codeL lq125)
noncomputable def i125 : Code := codeL (codeL (codeR b125))
noncomputable def b125c : Code := codeL (codeL (codeR (codeL (codeL (codeR i125)))))
noncomputable def p125f : Code := codeL b125c
noncomputable def p125b : Code := codeR b125c
structure EdAt (w : World) (bl ol : Nat) (E : List Ed) : Prop where
  lt : bl < w.heap.size
  cells : ∀ i (h : i < E.length), At w bl (ol + i * 3) E[i].enc
theorem EdAt.c {w wr : World} {bl ol : Nat} {E : List Ed} (h : EdAt w bl ol E) (hb : Below w.heap.size w wr) {i : Nat} (hi : i < E.length) {u v : Nat} (he : E.getD i ed0 = ⟨u, v⟩) :
    wr.cell? ⟨bl, ol + i * 3, none⟩ = some (.int .i64 u) ∧ wr.cell? ⟨bl, ol + i * 3 + 1, none⟩ = some (.int .i64 v) ∧ wr.cell? ⟨bl, ol + i * 3 + 2, none⟩ = some (.int .i64 1) := by
  rw [edGet hi] at he
  have := ((h.cells i hi).below hb h.lt).c3
  rw [he] at this
  exact this
theorem EdAt.z {w wr : World} {bl ol : Nat} {E : List Ed} (h : EdAt w bl ol E) (hb : Below w.heap.size w wr) : bl < wr.heap.size := Nat.lt_of_lt_of_le h.lt hb.size
structure FlAt (w : World) (gf : Nat) (F : List Int) : Prop where
  lt : gf < w.heap.size
  cells : ∀ i, i < F.length → w.cell? ⟨gf, i, none⟩ = some (.int .i64 (F.getD i 0))
theorem FlAt.c {w wr : World} {gf : Nat} {F : List Int} (h : FlAt w gf F) (hb : Below w.heap.size w wr) {i : Nat} (hi : i < F.length) : wr.cell? ⟨gf, i, none⟩ = some (.int .i64 (F.getD i 0)) := by
  rw [← h.cells i hi]
  have := hb.block gf h.lt
  simp only [World.cell?, this]
set_option maxRecDepth 100000 in
set_option maxHeartbeats 2000000 in
theorem p125f_walk (w wr : World) (n gs Bw nE cE gf : Nat) (E : List Ed) (F : List Int) (u v k j : Nat) (seen : List Bool) (bys : List Int) (ord : List Nat) (vw : Value) (bl ol : Nat) {q0 q3 q4 q5 q6 q12 q13 q14 q15 q16 q17 q18 q19 q20 q21 q22 q23 q24 q25 q26 q27 q28 q29 q30 q31 q32 q33 q34 q35 q36 q37 q38 q39 q40 q41 q42 q43 q44 q45 q46 q47 q48 q49 q50 q51 q52 q53 q54 q55 q56 q57 q58 q59 q60 q61 q62 q63 q64 q65 q66 q67 q68 q69 q70 q71 q72 q73 q74 q75 q76 q77 q78 q79 q80 q81 q82 q83 q84 q85 q86 q87 q88 q89 q90 q91 q92 q93 q94 q95 q96 q97 q98 q99 q100 q101 q102 q103 q104 q105 q106 q107 q108 q109 q110 q111 q112 q113 q114 q115 q116 q117 q118 q119 q120 q121 q122 q123 q124 q125 q126 q127 q128 q129 q130 q131 q132 q133 q134 q135 q136 q137 q138 q139 q140 q141 q142 q143 q144 q145 q146 q147 q148 q149 q150 q151 q152 q153 q154 q155 q156 q157 q158 q159 q160 q161 q162 q163 q164 q165 q166 q167 q168 q169 q170 q171 q172 q173 q174 q175 q176 q177 q178 q179 q180 q181 q182 q183 q184 q185 q186 q187 q188 q189 q190 q191 q192 q193 q194 q195 q196 q197 q198 q199 q200 q201 : Value} (hA : EdAt w bl ol E) (hF : FlAt w gf F) (hl : E.length = nE) (hfl : F.length = nE) (hfb : FlB F) (hnc : nE ≤ cE) (hE4 : nE ≤ 1000) (hn : n ≤ 1000) (hw : WyW w wr n gs Bw seen bys ord vw) (hb : BfE E F u n seen bys ord) (hk : ord[k]? = some v) (hj : j < nE) (fr to : Nat) (hat : E.getD j ed0 = ⟨fr, to⟩) (hne : fr ≠ to) (n1' : fr < n) (n2' : to < n) :
    p125f.wp Tryz.prog (fun (e : Exit) (a : Act) (W' : World) => e = .normal ∧ ∃ (vw' : Value) (seen' : List Bool) (bys' : List Int) (ext : List Nat) (z : Nat → Value), a = { tmps := List.toArray (q0 :: (.slice (some ⟨bl, ol, none⟩) nE cE) :: (.slice (some ⟨gf, 0, none⟩) nE nE) :: q3 :: q4 :: q5 :: q6 :: (.slice (some ⟨w.heap.size, 0, none⟩) n n) :: (.slice (some ⟨gs, 0, none⟩) n n) :: vw' :: (.int .i64 (k : Nat)) :: (.int .i64 (j : Nat)) :: q12 :: q13 :: q14 :: q15 :: q16 :: q17 :: q18 :: q19 :: q20 :: q21 :: q22 :: q23 :: q24 :: q25 :: q26 :: q27 :: q28 :: q29 :: q30 :: q31 :: q32 :: q33 :: q34 :: q35 :: (z 36) :: (z 37) :: (z 38) :: (z 39) :: (z 40) :: (z 41) :: (z 42) :: (z 43) :: (z 44) :: (z 45) :: (z 46) :: (z 47) :: (z 48) :: (z 49) :: (z 50) :: (z 51) :: (z 52) :: (z 53) :: (z 54) :: (z 55) :: (z 56) :: (z 57) :: (z 58) :: (z 59) :: (z 60) :: (z 61) :: (z 62) :: (z 63) :: (z 64) :: (z 65) :: (z 66) :: (z 67) :: (z 68) :: (z 69) :: (z 70) :: (z 71) :: (z 72) :: (z 73) :: (z 74) :: (z 75) :: (z 76) :: (z 77) :: (z 78) :: (z 79) :: (z 80) :: (z 81) :: (z 82) :: (z 83) :: (z 84) :: (z 85) :: (z 86) :: (z 87) :: (z 88) :: (z 89) :: (z 90) :: (z 91) :: (z 92) :: q93 :: q94 :: q95 :: q96 :: q97 :: q98 :: q99 :: q100 :: q101 :: q102 :: q103 :: q104 :: q105 :: q106 :: q107 :: q108 :: q109 :: q110 :: q111 :: q112 :: q113 :: q114 :: q115 :: q116 :: q117 :: q118 :: q119 :: q120 :: q121 :: q122 :: q123 :: q124 :: q125 :: q126 :: q127 :: q128 :: q129 :: q130 :: q131 :: q132 :: q133 :: q134 :: q135 :: q136 :: q137 :: q138 :: q139 :: q140 :: q141 :: q142 :: q143 :: q144 :: q145 :: q146 :: q147 :: q148 :: q149 :: q150 :: q151 :: q152 :: q153 :: q154 :: q155 :: q156 :: q157 :: q158 :: q159 :: q160 :: q161 :: q162 :: q163 :: q164 :: q165 :: q166 :: q167 :: q168 :: q169 :: q170 :: q171 :: q172 :: q173 :: q174 :: q175 :: q176 :: q177 :: q178 :: q179 :: q180 :: q181 :: q182 :: q183 :: q184 :: q185 :: q186 :: q187 :: q188 :: q189 :: q190 :: q191 :: q192 :: q193 :: q194 :: q195 :: q196 :: q197 :: q198 :: q199 :: q200 :: q201 :: []), defers := [] } ∧ WyW w W' n gs Bw seen' bys' (ord ++ ext) vw' ∧ BfE E F u n seen' bys' (ord ++ ext) ∧ (fr = v → F.getD j 0 < 1 → to ∈ ord ++ ext))
      ({ tmps := List.toArray (q0 :: (.slice (some ⟨bl, ol, none⟩) nE cE) :: (.slice (some ⟨gf, 0, none⟩) nE nE) :: q3 :: q4 :: q5 :: q6 :: (.slice (some ⟨w.heap.size, 0, none⟩) n n) :: (.slice (some ⟨gs, 0, none⟩) n n) :: vw :: (.int .i64 (k : Nat)) :: (.int .i64 (j : Nat)) :: q12 :: q13 :: q14 :: q15 :: q16 :: q17 :: q18 :: q19 :: q20 :: q21 :: q22 :: q23 :: q24 :: q25 :: q26 :: q27 :: q28 :: q29 :: q30 :: q31 :: q32 :: q33 :: q34 :: q35 :: q36 :: q37 :: q38 :: q39 :: q40 :: q41 :: q42 :: q43 :: q44 :: q45 :: q46 :: q47 :: q48 :: q49 :: q50 :: q51 :: q52 :: q53 :: q54 :: q55 :: q56 :: q57 :: q58 :: q59 :: q60 :: q61 :: q62 :: q63 :: q64 :: q65 :: q66 :: q67 :: q68 :: q69 :: q70 :: q71 :: q72 :: q73 :: q74 :: q75 :: q76 :: q77 :: q78 :: q79 :: q80 :: q81 :: q82 :: q83 :: q84 :: q85 :: q86 :: q87 :: q88 :: q89 :: q90 :: q91 :: q92 :: q93 :: q94 :: q95 :: q96 :: q97 :: q98 :: q99 :: q100 :: q101 :: q102 :: q103 :: q104 :: q105 :: q106 :: q107 :: q108 :: q109 :: q110 :: q111 :: q112 :: q113 :: q114 :: q115 :: q116 :: q117 :: q118 :: q119 :: q120 :: q121 :: q122 :: q123 :: q124 :: q125 :: q126 :: q127 :: q128 :: q129 :: q130 :: q131 :: q132 :: q133 :: q134 :: q135 :: q136 :: q137 :: q138 :: q139 :: q140 :: q141 :: q142 :: q143 :: q144 :: q145 :: q146 :: q147 :: q148 :: q149 :: q150 :: q151 :: q152 :: q153 :: q154 :: q155 :: q156 :: q157 :: q158 :: q159 :: q160 :: q161 :: q162 :: q163 :: q164 :: q165 :: q166 :: q167 :: q168 :: q169 :: q170 :: q171 :: q172 :: q173 :: q174 :: q175 :: q176 :: q177 :: q178 :: q179 :: q180 :: q181 :: q182 :: q183 :: q184 :: q185 :: q186 :: q187 :: q188 :: q189 :: q190 :: q191 :: q192 :: q193 :: q194 :: q195 :: q196 :: q197 :: q198 :: q199 :: q200 :: q201 :: []), defers := [] }) wr := by
  obtain ⟨Q, hQ⟩ : ∃ Q : Exit → Act → World → Prop, (fun (e : Exit) (a : Act) (W' : World) => e = .normal ∧ ∃ (vw' : Value) (seen' : List Bool) (bys' : List Int) (ext : List Nat) (z : Nat → Value), a = { tmps := List.toArray (q0 :: (.slice (some ⟨bl, ol, none⟩) nE cE) :: (.slice (some ⟨gf, 0, none⟩) nE nE) :: q3 :: q4 :: q5 :: q6 :: (.slice (some ⟨w.heap.size, 0, none⟩) n n) :: (.slice (some ⟨gs, 0, none⟩) n n) :: vw' :: (.int .i64 (k : Nat)) :: (.int .i64 (j : Nat)) :: q12 :: q13 :: q14 :: q15 :: q16 :: q17 :: q18 :: q19 :: q20 :: q21 :: q22 :: q23 :: q24 :: q25 :: q26 :: q27 :: q28 :: q29 :: q30 :: q31 :: q32 :: q33 :: q34 :: q35 :: (z 36) :: (z 37) :: (z 38) :: (z 39) :: (z 40) :: (z 41) :: (z 42) :: (z 43) :: (z 44) :: (z 45) :: (z 46) :: (z 47) :: (z 48) :: (z 49) :: (z 50) :: (z 51) :: (z 52) :: (z 53) :: (z 54) :: (z 55) :: (z 56) :: (z 57) :: (z 58) :: (z 59) :: (z 60) :: (z 61) :: (z 62) :: (z 63) :: (z 64) :: (z 65) :: (z 66) :: (z 67) :: (z 68) :: (z 69) :: (z 70) :: (z 71) :: (z 72) :: (z 73) :: (z 74) :: (z 75) :: (z 76) :: (z 77) :: (z 78) :: (z 79) :: (z 80) :: (z 81) :: (z 82) :: (z 83) :: (z 84) :: (z 85) :: (z 86) :: (z 87) :: (z 88) :: (z 89) :: (z 90) :: (z 91) :: (z 92) :: q93 :: q94 :: q95 :: q96 :: q97 :: q98 :: q99 :: q100 :: q101 :: q102 :: q103 :: q104 :: q105 :: q106 :: q107 :: q108 :: q109 :: q110 :: q111 :: q112 :: q113 :: q114 :: q115 :: q116 :: q117 :: q118 :: q119 :: q120 :: q121 :: q122 :: q123 :: q124 :: q125 :: q126 :: q127 :: q128 :: q129 :: q130 :: q131 :: q132 :: q133 :: q134 :: q135 :: q136 :: q137 :: q138 :: q139 :: q140 :: q141 :: q142 :: q143 :: q144 :: q145 :: q146 :: q147 :: q148 :: q149 :: q150 :: q151 :: q152 :: q153 :: q154 :: q155 :: q156 :: q157 :: q158 :: q159 :: q160 :: q161 :: q162 :: q163 :: q164 :: q165 :: q166 :: q167 :: q168 :: q169 :: q170 :: q171 :: q172 :: q173 :: q174 :: q175 :: q176 :: q177 :: q178 :: q179 :: q180 :: q181 :: q182 :: q183 :: q184 :: q185 :: q186 :: q187 :: q188 :: q189 :: q190 :: q191 :: q192 :: q193 :: q194 :: q195 :: q196 :: q197 :: q198 :: q199 :: q200 :: q201 :: []), defers := [] } ∧ WyW w W' n gs Bw seen' bys' (ord ++ ext) vw' ∧ BfE E F u n seen' bys' (ord ++ ext) ∧ (fr = v → F.getD j 0 < 1 → to ∈ ord ++ ext)) = Q := ⟨_, rfl⟩
  rw [hQ]
  have HQ := Lib.hid hQ
  clear hQ
  have HCA := Lib.hid (fun (W : World) (h : Below w.heap.size w W) => hA.c h (show j < E.length by omega) hat)
  have HZ := Lib.hid (fun (W : World) (h : Below w.heap.size w W) => hA.z h)
  have hbl := hA.lt
  have HLEN := Lib.hid (show (outI ord).length ≤ 1000000 by have h := hb.count; simp [outI] at h ⊢; omega)
  obtain ⟨hk1, hk2⟩ := List.getElem?_eq_some_iff.1 hk
  have hv : v ∈ ord := by rw [← hk2]; exact List.getElem_mem hk1
  obtain ⟨g, cap, rfl, hgB, hgz⟩ := hw.form (by omega)
  have hwc := hw.workc hk1
  rw [hk2] at hwc
  obtain ⟨lo, hlo⟩ : ∃ n, ord.length = n := ⟨_, rfl⟩
  have hcap : lo ≤ cap ∧ True := ⟨by have := hw.work; obtain ⟨h1, h2⟩ := this; rcases h2 with ⟨h3, _⟩ | ⟨g', cap', cur, h3, _, _, h4, _⟩; · cases h3
                                     · injection h3 with _ e2 e3; have := h1; simp [outI] at *; omega, trivial⟩
  rw [hlo] at hk1 hw
  rw [show (Value.slice (some ⟨g, 0, none⟩) ord.length cap) = .slice (some ⟨g, 0, none⟩) lo cap by rw [hlo]]
  obtain ⟨e0, e1, e2⟩ := HCA.out _ hw.below
  have fc := hF.c hw.below (i := j) (by omega)
  have hfz : gf < wr.heap.size := Nat.lt_of_lt_of_le hF.lt hw.below.size
  obtain ⟨hf0, hf1⟩ := flB_get hfb j
  have hblz := HZ.out _ hw.below
  obtain ⟨z1, z2⟩ := hw.gsz
  have sx := hw.seenc n2'
  have mx := hb.mem to n2'
  obtain ⟨bx, hbx⟩ : ∃ y, seen.getD to false = y := ⟨_, rfl⟩
  rw [hbx] at sx mx
  have HM := Lib.hid mx
  have HW := Lib.hid hw
  have HB := Lib.hid hb
  have HV := Lib.hid hv
  have HAT := Lib.hid hat
  have HEL := Lib.hid hl
  obtain ⟨fl, hfe⟩ : ∃ y, F.getD j 0 = y := ⟨_, rfl⟩
  have HFE := Lib.hid hfe
  rw [hfe] at fc hf0 hf1 HQ
  clear hA hF hw hb mx hbx hv hat hk hk2 hlo hl hfl hfb hfe hgB
  obtain ⟨hcap1, _⟩ := hcap
  simp only [p125f, b125c, i125, b125, lq125, c125, Tryz.f125, Option.getD, codeL, codeR]
  by_cases hfr : fr = v
  · subst hfr
    have b1 : ((fr : Int) == (fr : Int)) = true := beq_self_eq_true _
    cases bx with
    | true =>
      go_wp2_with fail
      go_quiet (fail)
      go_wp2_with fail
      rw [← HQ.out]
      refine ⟨rfl, _, seen, bys, [], fun i => [_, _, _, _, _, _, _, _, _, _, _, _, _, _, _, _, _, _, _, _, _, _, _, _, _, _, _, _, _, _, _, _, _, _, _, _, _, _, _, _, _, _, _, _, _, _, _, _, _, _, _, _, _, _, _, _, _].getD (i - 36) undef, rfl, ?_, ?_, ?_⟩
      · rw [List.append_nil]; exact HW.out.later (below_drewN (Below.refl _ _) nq)
      · rw [List.append_nil]; exact HB.out
      · intro _ _; rw [List.append_nil]; exact HM.out.1 (by first | rfl | trivial)
    | false =>
      by_cases hfl : fl < 1
      · have b3 : decide (fl < 1) = true := decide_eq_true hfl
        go_wp2_with fail
        go_quiet (fail)
        have HW5 := Lib.hid (HW.out.later (below_drewN (Below.refl _ _) nq))
        generalize wr.drewN nq = w5 at *
        clear e0 e1 e2 fc hfz z1 z2 hblz sx hwc hgz nq
        obtain ⟨e0, e1, e2⟩ := HCA.out _ HW5.out.below
        obtain ⟨z1, z2⟩ := HW5.out.gsz
        have hblz := HZ.out _ HW5.out.below
        have sx := HW5.out.seenc n2'
        go_wp2_with fail
        have hbn := HW5.out.bn
        have zf := HW5.out.seenf
        have hg3 : ¬ gs = bl := by have := HW5.out.gs1; omega
        have HWd := Lib.hid (HW5.out.later (show Below w5.heap.size w5 { w5 with drawn := w5.drawn + 1 } from ⟨rfl, rfl, rfl, Nat.le_refl _, fun _ _ => rfl⟩))
        have HK : Hid (∀ W', (W' = { w5 with drawn := w5.drawn + 1 } ∨ W' = ({ w5 with drawn := w5.drawn + 1 } : World).setCell ⟨gs, to, none⟩ (.bool true)) → ∃ X : Keep w5 (fun b _ => b = bl), W' = X.w) := Lib.hid (by
          rintro W' (rfl | rfl)
          · exact ⟨⟨{ w5 with drawn := w5.drawn + 1 }, fun b o hb => rfl⟩, rfl⟩
          · exact ⟨⟨({ w5 with drawn := w5.drawn + 1 } : World).setCell ⟨gs, to, none⟩ (.bool true), fun b o hb => by subst hb; exact (cell_other _ _ _ _ _ _ (.inl hg3)).trans rfl⟩, rfl⟩)
        refine wp_region_storeflow 17 15 _ (({ w5 with drawn := w5.drawn + 1 } : World).setCell ⟨gs, to, none⟩ (.bool true)) (by kernel_rfl) (by kernel_rfl) rfl ?_
        apply Exists.intro
        refine ⟨fun W' hW' => ?_, ?_, ?_⟩
        · obtain ⟨X, hX⟩ := HK.out W' hW'
          subst hX
          rw [← keep1_class X]
          simp only [headsOf, List.take_succ_cons, List.drop_succ_cons, List.take_zero, List.drop_zero, Nat.reduceSub, List.cons_append, List.nil_append]
          repeat go_big_quiet_step (fail)
          exact wpQuiet_nil rfl
        · have zf2 : ({ w5 with drawn := w5.drawn + 1 } : World).frozen? ⟨gs, to, none⟩ = false := zf to
          have sx2 : ({ w5 with drawn := w5.drawn + 1 } : World).cell? ⟨gs, to, none⟩ = some (.bool (seen.getD to false)) := sx
          go_simp
          first | done | rfl
        simp only [Act.put, List.setIfInBounds_toArray, List.set_cons_succ, List.set_cons_zero, List.drop_succ_cons, List.drop_zero]
        generalize ({ w5 with drawn := w5.drawn + 1 } : World) = w6 at *
        clear zf sx z1 z2 e0 e1 e2 hblz HK
        have hwe := HWd.out.setSeen n2'
        have HW6 := Lib.hid (hwe.setBy n2' ((j : Int) + 1))
        have cby := hwe.byc (List.getElem?_eq_getElem (show to < bys.length by omega))
        have yf := hwe.byf
        obtain ⟨z1, z2⟩ := HWd.out.gsz
        have z3 := hwe.gsz.1
        clear hwe
        have hblz := HZ.out _ HWd.out.below
        have HW7 := Lib.hid (HW6.out.alloc (.cells #[.int .i64 (to : Int)] 3))
        obtain ⟨e0, e1, e2⟩ := HCA.out _ HW6.out.below
        go_wp2_with (at_builtin; (refine wpList_pushB encI 1 8 26 3 _ Tryz.underlying26 infoI rfl (by decide) (by decide) encI_len encI_one (outI ord) (to : Int) Bw _ _ _ _ (row_here (by simp)) rfl _ HW7.out.work HW7.out.bsz HLEN.out rfl _ _ rfl rfl rfl ?_); intro v' w' hown' hg'; have HW8 := Lib.hid (HW7.out.push hown' hg'); clear hown' hg')
        rw [← HQ.out]
        have hnin : to ∉ ord := fun h => by have h2 := HM.out.2 h; cases h2
        have hgd : EgE E F fr to j true := ⟨by rw [HEL.out]; exact hj, by rw [HAT.out]; rfl, by rw [HAT.out]; rfl, by rw [HFE.out]; exact hfl⟩
        refine ⟨rfl, _, seen.set to true, bys.set to (codeE j true), [to], fun i => [_, _, _, _, _, _, _, _, _, _, _, _, _, _, _, _, _, _, _, _, _, _, _, _, _, _, _, _, _, _, _, _, _, _, _, _, _, _, _, _, _, _, _, _, _, _, _, _, _, _, _, _, _, _, _, _, _].getD (i - 36) undef, rfl, HW8.out, HB.out.visit HV.out n2' hnin hgd, ?_⟩
        intro _ _; simp
      · have b3 : decide (fl < 1) = false := decide_eq_false hfl
        go_wp2_with fail
        go_quiet (fail)
        go_wp2_with fail
        rw [← HQ.out]
        refine ⟨rfl, _, seen, bys, [], fun i => [_, _, _, _, _, _, _, _, _, _, _, _, _, _, _, _, _, _, _, _, _, _, _, _, _, _, _, _, _, _, _, _, _, _, _, _, _, _, _, _, _, _, _, _, _, _, _, _, _, _, _, _, _, _, _, _, _].getD (i - 36) undef, rfl, ?_, ?_, ?_⟩
        · rw [List.append_nil]; exact HW.out.later (below_drewN (Below.refl _ _) nq)
        · rw [List.append_nil]; exact HB.out
        · intro _ h; exact absurd h (by omega)
  · have b1 : ((fr : Int) == (v : Int)) = false := beq_eq_false_iff_ne.2 (by omega)
    go_wp2_with fail
    go_quiet (fail)
    go_wp2_with fail
    rw [← HQ.out]
    refine ⟨rfl, _, seen, bys, [], fun i => [_, _, _, _, _, _, _, _, _, _, _, _, _, _, _, _, _, _, _, _, _, _, _, _, _, _, _, _, _, _, _, _, _, _, _, _, _, _, _, _, _, _, _, _, _, _, _, _, _, _, _, _, _, _, _, _, _].getD (i - 36) undef, rfl, ?_, ?_, ?_⟩
    · rw [List.append_nil]; exact HW.out.later (below_drewN (Below.refl _ _) nq)
    · rw [List.append_nil]; exact HB.out
    · intro h; exact absurd h hfr
set_option maxRecDepth 100000 in
set_option maxHeartbeats 2000000 in
theorem p125b_walk (w wr : World) (n gs Bw nE cE gf : Nat) (E : List Ed) (F : List Int) (u v k j : Nat) (seen : List Bool) (bys : List Int) (ord : List Nat) (vw : Value) (bl ol : Nat) {q0 q3 q4 q5 q6 q12 q13 q14 q15 q16 q17 q18 q19 q20 q21 q22 q23 q24 q25 q26 q27 q28 q29 q30 q31 q32 q33 q34 q35 q36 q37 q38 q39 q40 q41 q42 q43 q44 q45 q46 q47 q48 q49 q50 q51 q52 q53 q54 q55 q56 q57 q58 q59 q60 q61 q62 q63 q64 q65 q66 q67 q68 q69 q70 q71 q72 q73 q74 q75 q76 q77 q78 q79 q80 q81 q82 q83 q84 q85 q86 q87 q88 q89 q90 q91 q92 q93 q94 q95 q96 q97 q98 q99 q100 q101 q102 q103 q104 q105 q106 q107 q108 q109 q110 q111 q112 q113 q114 q115 q116 q117 q118 q119 q120 q121 q122 q123 q124 q125 q126 q127 q128 q129 q130 q131 q132 q133 q134 q135 q136 q137 q138 q139 q140 q141 q142 q143 q144 q145 q146 q147 q148 q149 q150 q151 q152 q153 q154 q155 q156 q157 q158 q159 q160 q161 q162 q163 q164 q165 q166 q167 q168 q169 q170 q171 q172 q173 q174 q175 q176 q177 q178 q179 q180 q181 q182 q183 q184 q185 q186 q187 q188 q189 q190 q191 q192 q193 q194 q195 q196 q197 q198 q199 q200 q201 : Value} (hA : EdAt w bl ol E) (hF : FlAt w gf F) (hl : E.length = nE) (hfl : F.length = nE) (hfb : FlB F) (hnc : nE ≤ cE) (hE4 : nE ≤ 1000) (hn : n ≤ 1000) (hw : WyW w wr n gs Bw seen bys ord vw) (hb : BfE E F u n seen bys ord) (hk : ord[k]? = some v) (hj : j < nE) (fr to : Nat) (hat : E.getD j ed0 = ⟨fr, to⟩) (hne : fr ≠ to) (n1' : fr < n) (n2' : to < n) :
    p125b.wp Tryz.prog (fun (e : Exit) (a : Act) (W' : World) => e = .normal ∧ ∃ (vw' : Value) (seen' : List Bool) (bys' : List Int) (ext : List Nat) (z : Nat → Value), a = { tmps := List.toArray (q0 :: (.slice (some ⟨bl, ol, none⟩) nE cE) :: (.slice (some ⟨gf, 0, none⟩) nE nE) :: q3 :: q4 :: q5 :: q6 :: (.slice (some ⟨w.heap.size, 0, none⟩) n n) :: (.slice (some ⟨gs, 0, none⟩) n n) :: vw' :: (.int .i64 (k : Nat)) :: (.int .i64 (j : Nat)) :: q12 :: q13 :: q14 :: q15 :: q16 :: q17 :: q18 :: q19 :: q20 :: q21 :: q22 :: q23 :: q24 :: q25 :: q26 :: q27 :: q28 :: q29 :: q30 :: q31 :: q32 :: q33 :: q34 :: q35 :: q36 :: q37 :: q38 :: q39 :: q40 :: q41 :: q42 :: q43 :: q44 :: q45 :: q46 :: q47 :: q48 :: q49 :: q50 :: q51 :: q52 :: q53 :: q54 :: q55 :: q56 :: q57 :: q58 :: q59 :: q60 :: q61 :: q62 :: q63 :: q64 :: q65 :: q66 :: q67 :: q68 :: q69 :: q70 :: q71 :: q72 :: q73 :: q74 :: q75 :: q76 :: q77 :: q78 :: q79 :: q80 :: q81 :: q82 :: q83 :: q84 :: q85 :: q86 :: q87 :: q88 :: q89 :: q90 :: q91 :: q92 :: (z 93) :: (z 94) :: (z 95) :: (z 96) :: (z 97) :: (z 98) :: (z 99) :: (z 100) :: (z 101) :: (z 102) :: (z 103) :: (z 104) :: (z 105) :: (z 106) :: (z 107) :: (z 108) :: (z 109) :: (z 110) :: (z 111) :: (z 112) :: (z 113) :: (z 114) :: (z 115) :: (z 116) :: (z 117) :: (z 118) :: (z 119) :: (z 120) :: (z 121) :: (z 122) :: (z 123) :: (z 124) :: (z 125) :: (z 126) :: (z 127) :: (z 128) :: (z 129) :: (z 130) :: (z 131) :: (z 132) :: (z 133) :: (z 134) :: (z 135) :: (z 136) :: (z 137) :: (z 138) :: (z 139) :: (z 140) :: (z 141) :: (z 142) :: (z 143) :: (z 144) :: (z 145) :: q146 :: q147 :: q148 :: q149 :: q150 :: q151 :: q152 :: q153 :: q154 :: q155 :: q156 :: q157 :: q158 :: q159 :: q160 :: q161 :: q162 :: q163 :: q164 :: q165 :: q166 :: q167 :: q168 :: q169 :: q170 :: q171 :: q172 :: q173 :: q174 :: q175 :: q176 :: q177 :: q178 :: q179 :: q180 :: q181 :: q182 :: q183 :: q184 :: q185 :: q186 :: q187 :: q188 :: q189 :: q190 :: q191 :: q192 :: q193 :: q194 :: q195 :: q196 :: q197 :: q198 :: q199 :: q200 :: q201 :: []), defers := [] } ∧ WyW w W' n gs Bw seen' bys' (ord ++ ext) vw' ∧ BfE E F u n seen' bys' (ord ++ ext) ∧ (to = v → 0 < F.getD j 0 → fr ∈ ord ++ ext))
      ({ tmps := List.toArray (q0 :: (.slice (some ⟨bl, ol, none⟩) nE cE) :: (.slice (some ⟨gf, 0, none⟩) nE nE) :: q3 :: q4 :: q5 :: q6 :: (.slice (some ⟨w.heap.size, 0, none⟩) n n) :: (.slice (some ⟨gs, 0, none⟩) n n) :: vw :: (.int .i64 (k : Nat)) :: (.int .i64 (j : Nat)) :: q12 :: q13 :: q14 :: q15 :: q16 :: q17 :: q18 :: q19 :: q20 :: q21 :: q22 :: q23 :: q24 :: q25 :: q26 :: q27 :: q28 :: q29 :: q30 :: q31 :: q32 :: q33 :: q34 :: q35 :: q36 :: q37 :: q38 :: q39 :: q40 :: q41 :: q42 :: q43 :: q44 :: q45 :: q46 :: q47 :: q48 :: q49 :: q50 :: q51 :: q52 :: q53 :: q54 :: q55 :: q56 :: q57 :: q58 :: q59 :: q60 :: q61 :: q62 :: q63 :: q64 :: q65 :: q66 :: q67 :: q68 :: q69 :: q70 :: q71 :: q72 :: q73 :: q74 :: q75 :: q76 :: q77 :: q78 :: q79 :: q80 :: q81 :: q82 :: q83 :: q84 :: q85 :: q86 :: q87 :: q88 :: q89 :: q90 :: q91 :: q92 :: q93 :: q94 :: q95 :: q96 :: q97 :: q98 :: q99 :: q100 :: q101 :: q102 :: q103 :: q104 :: q105 :: q106 :: q107 :: q108 :: q109 :: q110 :: q111 :: q112 :: q113 :: q114 :: q115 :: q116 :: q117 :: q118 :: q119 :: q120 :: q121 :: q122 :: q123 :: q124 :: q125 :: q126 :: q127 :: q128 :: q129 :: q130 :: q131 :: q132 :: q133 :: q134 :: q135 :: q136 :: q137 :: q138 :: q139 :: q140 :: q141 :: q142 :: q143 :: q144 :: q145 :: q146 :: q147 :: q148 :: q149 :: q150 :: q151 :: q152 :: q153 :: q154 :: q155 :: q156 :: q157 :: q158 :: q159 :: q160 :: q161 :: q162 :: q163 :: q164 :: q165 :: q166 :: q167 :: q168 :: q169 :: q170 :: q171 :: q172 :: q173 :: q174 :: q175 :: q176 :: q177 :: q178 :: q179 :: q180 :: q181 :: q182 :: q183 :: q184 :: q185 :: q186 :: q187 :: q188 :: q189 :: q190 :: q191 :: q192 :: q193 :: q194 :: q195 :: q196 :: q197 :: q198 :: q199 :: q200 :: q201 :: []), defers := [] }) wr := by
  obtain ⟨Q, hQ⟩ : ∃ Q : Exit → Act → World → Prop, (fun (e : Exit) (a : Act) (W' : World) => e = .normal ∧ ∃ (vw' : Value) (seen' : List Bool) (bys' : List Int) (ext : List Nat) (z : Nat → Value), a = { tmps := List.toArray (q0 :: (.slice (some ⟨bl, ol, none⟩) nE cE) :: (.slice (some ⟨gf, 0, none⟩) nE nE) :: q3 :: q4 :: q5 :: q6 :: (.slice (some ⟨w.heap.size, 0, none⟩) n n) :: (.slice (some ⟨gs, 0, none⟩) n n) :: vw' :: (.int .i64 (k : Nat)) :: (.int .i64 (j : Nat)) :: q12 :: q13 :: q14 :: q15 :: q16 :: q17 :: q18 :: q19 :: q20 :: q21 :: q22 :: q23 :: q24 :: q25 :: q26 :: q27 :: q28 :: q29 :: q30 :: q31 :: q32 :: q33 :: q34 :: q35 :: q36 :: q37 :: q38 :: q39 :: q40 :: q41 :: q42 :: q43 :: q44 :: q45 :: q46 :: q47 :: q48 :: q49 :: q50 :: q51 :: q52 :: q53 :: q54 :: q55 :: q56 :: q57 :: q58 :: q59 :: q60 :: q61 :: q62 :: q63 :: q64 :: q65 :: q66 :: q67 :: q68 :: q69 :: q70 :: q71 :: q72 :: q73 :: q74 :: q75 :: q76 :: q77 :: q78 :: q79 :: q80 :: q81 :: q82 :: q83 :: q84 :: q85 :: q86 :: q87 :: q88 :: q89 :: q90 :: q91 :: q92 :: (z 93) :: (z 94) :: (z 95) :: (z 96) :: (z 97) :: (z 98) :: (z 99) :: (z 100) :: (z 101) :: (z 102) :: (z 103) :: (z 104) :: (z 105) :: (z 106) :: (z 107) :: (z 108) :: (z 109) :: (z 110) :: (z 111) :: (z 112) :: (z 113) :: (z 114) :: (z 115) :: (z 116) :: (z 117) :: (z 118) :: (z 119) :: (z 120) :: (z 121) :: (z 122) :: (z 123) :: (z 124) :: (z 125) :: (z 126) :: (z 127) :: (z 128) :: (z 129) :: (z 130) :: (z 131) :: (z 132) :: (z 133) :: (z 134) :: (z 135) :: (z 136) :: (z 137) :: (z 138) :: (z 139) :: (z 140) :: (z 141) :: (z 142) :: (z 143) :: (z 144) :: (z 145) :: q146 :: q147 :: q148 :: q149 :: q150 :: q151 :: q152 :: q153 :: q154 :: q155 :: q156 :: q157 :: q158 :: q159 :: q160 :: q161 :: q162 :: q163 :: q164 :: q165 :: q166 :: q167 :: q168 :: q169 :: q170 :: q171 :: q172 :: q173 :: q174 :: q175 :: q176 :: q177 :: q178 :: q179 :: q180 :: q181 :: q182 :: q183 :: q184 :: q185 :: q186 :: q187 :: q188 :: q189 :: q190 :: q191 :: q192 :: q193 :: q194 :: q195 :: q196 :: q197 :: q198 :: q199 :: q200 :: q201 :: []), defers := [] } ∧ WyW w W' n gs Bw seen' bys' (ord ++ ext) vw' ∧ BfE E F u n seen' bys' (ord ++ ext) ∧ (to = v → 0 < F.getD j 0 → fr ∈ ord ++ ext)) = Q := ⟨_, rfl⟩
  rw [hQ]
  have HQ := Lib.hid hQ
  clear hQ
  have HCA := Lib.hid (fun (W : World) (h : Below w.heap.size w W) => hA.c h (show j < E.length by omega) hat)
  have HZ := Lib.hid (fun (W : World) (h : Below w.heap.size w W) => hA.z h)
  have hbl := hA.lt
  have HLEN := Lib.hid (show (outI ord).length ≤ 1000000 by have h := hb.count; simp [outI] at h ⊢; omega)
  obtain ⟨hk1, hk2⟩ := List.getElem?_eq_some_iff.1 hk
  have hv : v ∈ ord := by rw [← hk2]; exact List.getElem_mem hk1
  obtain ⟨g, cap, rfl, hgB, hgz⟩ := hw.form (by omega)
  have hwc := hw.workc hk1
  rw [hk2] at hwc
  obtain ⟨lo, hlo⟩ : ∃ n, ord.length = n := ⟨_, rfl⟩
  have hcap : lo ≤ cap ∧ True := ⟨by have := hw.work; obtain ⟨h1, h2⟩ := this; rcases h2 with ⟨h3, _⟩ | ⟨g', cap', cur, h3, _, _, h4, _⟩; · cases h3
                                     · injection h3 with _ e2 e3; have := h1; simp [outI] at *; omega, trivial⟩
  rw [hlo] at hk1 hw
  rw [show (Value.slice (some ⟨g, 0, none⟩) ord.length cap) = .slice (some ⟨g, 0, none⟩) lo cap by rw [hlo]]
  obtain ⟨e0, e1, e2⟩ := HCA.out _ hw.below
  have fc := hF.c hw.below (i := j) (by omega)
  have hfz : gf < wr.heap.size := Nat.lt_of_lt_of_le hF.lt hw.below.size
  obtain ⟨hf0, hf1⟩ := flB_get hfb j
  have hblz := HZ.out _ hw.below
  obtain ⟨z1, z2⟩ := hw.gsz
  have sx := hw.seenc n1'
  have mx := hb.mem fr n1'
  obtain ⟨bx, hbx⟩ : ∃ y, seen.getD fr false = y := ⟨_, rfl⟩
  rw [hbx] at sx mx
  have HM := Lib.hid mx
  have HW := Lib.hid hw
  have HB := Lib.hid hb
  have HV := Lib.hid hv
  have HAT := Lib.hid hat
  have HEL := Lib.hid hl
  obtain ⟨fl, hfe⟩ : ∃ y, F.getD j 0 = y := ⟨_, rfl⟩
  have HFE := Lib.hid hfe
  rw [hfe] at fc hf0 hf1 HQ
  clear hA hF hw hb mx hbx hv hat hk hk2 hlo hl hfl hfb hfe hgB
  obtain ⟨hcap1, _⟩ := hcap
  simp only [p125b, b125c, i125, b125, lq125, c125, Tryz.f125, Option.getD, codeL, codeR]
  by_cases hfr : to = v
  · subst hfr
    have b1 : ((to : Int) == (to : Int)) = true := beq_self_eq_true _
    cases bx with
    | true =>
      go_wp2_with fail
      go_quiet (fail)
      go_wp2_with fail
      rw [← HQ.out]
      refine ⟨rfl, _, seen, bys, [], fun i => [_, _, _, _, _, _, _, _, _, _, _, _, _, _, _, _, _, _, _, _, _, _, _, _, _, _, _, _, _, _, _, _, _, _, _, _, _, _, _, _, _, _, _, _, _, _, _, _, _, _, _, _, _].getD (i - 93) undef, rfl, ?_, ?_, ?_⟩
      · rw [List.append_nil]; exact HW.out.later (below_drewN (Below.refl _ _) nq)
      · rw [List.append_nil]; exact HB.out
      · intro _ _; rw [List.append_nil]; exact HM.out.1 (by first | rfl | trivial)
    | false =>
      by_cases hfl : 0 < fl
      · have b3 : decide (0 < fl) = true := decide_eq_true hfl
        go_wp2_with fail
        go_quiet (fail)
        have HW5 := Lib.hid (HW.out.later (below_drewN (Below.refl _ _) nq))
        generalize wr.drewN nq = w5 at *
        clear e0 e1 e2 fc hfz z1 z2 hblz sx hwc hgz nq
        obtain ⟨e0, e1, e2⟩ := HCA.out _ HW5.out.below
        obtain ⟨z1, z2⟩ := HW5.out.gsz
        have hblz := HZ.out _ HW5.out.below
        have sx := HW5.out.seenc n1'
        go_wp2_with fail
        have hbn := HW5.out.bn
        have zf := HW5.out.seenf
        have hg3 : ¬ gs = bl := by have := HW5.out.gs1; omega
        have HWd := Lib.hid (HW5.out.later (show Below w5.heap.size w5 { w5 with drawn := w5.drawn + 1 } from ⟨rfl, rfl, rfl, Nat.le_refl _, fun _ _ => rfl⟩))
        have HK : Hid (∀ W', (W' = { w5 with drawn := w5.drawn + 1 } ∨ W' = ({ w5 with drawn := w5.drawn + 1 } : World).setCell ⟨gs, fr, none⟩ (.bool true)) → ∃ X : Keep w5 (fun b _ => b = bl), W' = X.w) := Lib.hid (by
          rintro W' (rfl | rfl)
          · exact ⟨⟨{ w5 with drawn := w5.drawn + 1 }, fun b o hb => rfl⟩, rfl⟩
          · exact ⟨⟨({ w5 with drawn := w5.drawn + 1 } : World).setCell ⟨gs, fr, none⟩ (.bool true), fun b o hb => by subst hb; exact (cell_other _ _ _ _ _ _ (.inl hg3)).trans rfl⟩, rfl⟩)
        refine wp_region_storeflow 18 16 _ (({ w5 with drawn := w5.drawn + 1 } : World).setCell ⟨gs, fr, none⟩ (.bool true)) (by kernel_rfl) (by kernel_rfl) rfl ?_
        apply Exists.intro
        refine ⟨fun W' hW' => ?_, ?_, ?_⟩
        · obtain ⟨X, hX⟩ := HK.out W' hW'
          subst hX
          rw [← keep1_class X]
          simp only [headsOf, List.take_succ_cons, List.drop_succ_cons, List.take_zero, List.drop_zero, Nat.reduceSub, List.cons_append, List.nil_append]
          repeat go_big_quiet_step (fail)
          exact wpQuiet_nil rfl
        · have zf2 : ({ w5 with drawn := w5.drawn + 1 } : World).frozen? ⟨gs, fr, none⟩ = false := zf fr
          have sx2 : ({ w5 with drawn := w5.drawn + 1 } : World).cell? ⟨gs, fr, none⟩ = some (.bool (seen.getD fr false)) := sx
          go_simp
          first | done | rfl
        simp only [Act.put, List.setIfInBounds_toArray, List.set_cons_succ, List.set_cons_zero, List.drop_succ_cons, List.drop_zero]
        generalize ({ w5 with drawn := w5.drawn + 1 } : World) = w6 at *
        clear zf sx z1 z2 e0 e1 e2 hblz HK
        have hwe := HWd.out.setSeen n1'
        have HW6 := Lib.hid (hwe.setBy n1' (-(j : Int) - 1))
        have cby := hwe.byc (List.getElem?_eq_getElem (show fr < bys.length by omega))
        have yf := hwe.byf
        obtain ⟨z1, z2⟩ := HWd.out.gsz
        have z3 := hwe.gsz.1
        clear hwe
        have hblz := HZ.out _ HWd.out.below
        have HW7 := Lib.hid (HW6.out.alloc (.cells #[.int .i64 (fr : Int)] 3))
        obtain ⟨e0, e1, e2⟩ := HCA.out _ HW6.out.below
        go_wp2_with (at_builtin; (refine wpList_pushB encI 1 8 26 3 _ Tryz.underlying26 infoI rfl (by decide) (by decide) encI_len encI_one (outI ord) (fr : Int) Bw _ _ _ _ (row_here (by simp)) rfl _ HW7.out.work HW7.out.bsz HLEN.out rfl _ _ rfl rfl rfl ?_); intro v' w' hown' hg'; have HW8 := Lib.hid (HW7.out.push hown' hg'); clear hown' hg')
        rw [← HQ.out]
        have hnin : fr ∉ ord := fun h => by have h2 := HM.out.2 h; cases h2
        have hgd : EgE E F to fr j false := ⟨by rw [HEL.out]; exact hj, by rw [HAT.out]; rfl, by rw [HAT.out]; rfl, by rw [HFE.out]; exact hfl⟩
        refine ⟨rfl, _, seen.set fr true, bys.set fr (codeE j false), [fr], fun i => [_, _, _, _, _, _, _, _, _, _, _, _, _, _, _, _, _, _, _, _, _, _, _, _, _, _, _, _, _, _, _, _, _, _, _, _, _, _, _, _, _, _, _, _, _, _, _, _, _, _, _, _, _].getD (i - 93) undef, rfl, HW8.out, HB.out.visit HV.out n1' hnin hgd, ?_⟩
        intro _ _; simp
      · have b3 : decide (0 < fl) = false := decide_eq_false hfl
        go_wp2_with fail
        go_quiet (fail)
        go_wp2_with fail
        rw [← HQ.out]
        refine ⟨rfl, _, seen, bys, [], fun i => [_, _, _, _, _, _, _, _, _, _, _, _, _, _, _, _, _, _, _, _, _, _, _, _, _, _, _, _, _, _, _, _, _, _, _, _, _, _, _, _, _, _, _, _, _, _, _, _, _, _, _, _, _].getD (i - 93) undef, rfl, ?_, ?_, ?_⟩
        · rw [List.append_nil]; exact HW.out.later (below_drewN (Below.refl _ _) nq)
        · rw [List.append_nil]; exact HB.out
        · intro _ h; exact absurd h (by omega)
  · have b1 : ((to : Int) == (v : Int)) = false := beq_eq_false_iff_ne.2 (by omega)
    go_wp2_with fail
    go_quiet (fail)
    go_wp2_with fail
    rw [← HQ.out]
    refine ⟨rfl, _, seen, bys, [], fun i => [_, _, _, _, _, _, _, _, _, _, _, _, _, _, _, _, _, _, _, _, _, _, _, _, _, _, _, _, _, _, _, _, _, _, _, _, _, _, _, _, _, _, _, _, _, _, _, _, _, _, _, _, _].getD (i - 93) undef, rfl, ?_, ?_, ?_⟩
    · rw [List.append_nil]; exact HW.out.later (below_drewN (Below.refl _ _) nq)
    · rw [List.append_nil]; exact HB.out
    · intro h; exact absurd h hfr
end Go.Proofs.YtahpdkkpnkhnhaaGreatDoor
