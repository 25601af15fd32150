/- Lemmas on the way to the law PathBottlenecks (part 12): Vl Vm Vn Tb -/
import Derived.Test.YtahpdkkpnkhnhaaGreatDoorPathBottlenecksP11
import Derived.RegionTactic
import Derived.BigRegion
import Derived.Test.YtahpdkkpnkhnhaaGreatDoorBA24
import Derived.Test.YtahpdkkpnkhnhaaGreatDoorPathBottlenecksP03
set_option linter.unusedVariables false
set_option linter.unusedSimpArgs false

/- Walks: all edges are looked at from one node. -/
namespace Go.Proofs.YtahpdkkpnkhnhaaGreatDoor
open Go Go.Proofs Go.RowKit Go.Shelf
theorem getE_app {ord ext : List Nat} {k v : Nat} (h : ord[k]? = some v) : (ord ++ ext)[k]? = some v := by
  obtain ⟨h1, h2⟩ := List.getElem?_eq_some_iff.1 h
  rw [List.getElem?_append_left h1]; exact h
set_option maxRecDepth 100000 in
set_option maxHeartbeats 2000000 in
theorem i125_walk (w wr : World) (n gs Bw nE cE gf : Nat) (vE : Value) (E : List Ed) (F : List Int) (u v k : Nat) (seen : List Bool) (bys : List Int) (ord : List Nat) (vw : Value) {q11 q0 q3 q4 q5 q6 q12 q13 q14 q15 q16 q17 q18 q19 q20 q21 q22 q23 q24 q25 q26 q27 q28 q29 q30 q31 q32 q33 q34 q35 q36 q37 q38 q39 q40 q41 q42 q43 q44 q45 q46 q47 q48 q49 q50 q51 q52 q53 q54 q55 q56 q57 q58 q59 q60 q61 q62 q63 q64 q65 q66 q67 q68 q69 q70 q71 q72 q73 q74 q75 q76 q77 q78 q79 q80 q81 q82 q83 q84 q85 q86 q87 q88 q89 q90 q91 q92 q93 q94 q95 q96 q97 q98 q99 q100 q101 q102 q103 q104 q105 q106 q107 q108 q109 q110 q111 q112 q113 q114 q115 q116 q117 q118 q119 q120 q121 q122 q123 q124 q125 q126 q127 q128 q129 q130 q131 q132 q133 q134 q135 q136 q137 q138 q139 q140 q141 q142 q143 q144 q145 q146 q147 q148 q149 q150 q151 q152 q153 q154 q155 q156 q157 q158 q159 q160 q161 q162 q163 q164 q165 q166 q167 q168 q169 q170 q171 q172 q173 q174 q175 q176 q177 q178 q179 q180 q181 q182 q183 q184 q185 q186 q187 q188 q189 q190 q191 q192 q193 q194 q195 q196 q197 q198 q199 q200 q201 : Value} (hA : 0 < nE → ∃ bl ol, vE = .slice (some ⟨bl, ol, none⟩) nE cE ∧ EdAt w bl ol E) (hV : ∃ a, vE = .slice a nE cE) (hF : FlAt w gf F) (hl : E.length = nE) (hfl : F.length = nE) (hfb : FlB F) (hnc : nE ≤ cE) (hE4 : nE ≤ 1000) (hn : n ≤ 1000) (hE : ∀ e ∈ E, e.u < n ∧ e.v < n ∧ e.u ≠ e.v) (hw : WyW w wr n gs Bw seen bys ord vw) (hb : BfE E F u n seen bys ord) (hk : ord[k]? = some v) :
    i125.wp Tryz.prog (fun (e : Exit) (a : Act) (W' : World) => e = .normal ∧ ∃ (vw' : Value) (seen' : List Bool) (bys' : List Int) (ext : List Nat) (s11 : Value) (z : Nat → Value), a = { tmps := List.toArray (q0 :: vE :: (.slice (some ⟨gf, 0, none⟩) nE nE) :: q3 :: q4 :: q5 :: q6 :: (.slice (some ⟨w.heap.size, 0, none⟩) n n) :: (.slice (some ⟨gs, 0, none⟩) n n) :: vw' :: (.int .i64 (k : Nat)) :: s11 :: q12 :: q13 :: q14 :: q15 :: q16 :: q17 :: q18 :: q19 :: q20 :: q21 :: q22 :: q23 :: q24 :: q25 :: q26 :: q27 :: q28 :: q29 :: (z 30) :: (z 31) :: (z 32) :: (z 33) :: (z 34) :: (z 35) :: (z 36) :: (z 37) :: (z 38) :: (z 39) :: (z 40) :: (z 41) :: (z 42) :: (z 43) :: (z 44) :: (z 45) :: (z 46) :: (z 47) :: (z 48) :: (z 49) :: (z 50) :: (z 51) :: (z 52) :: (z 53) :: (z 54) :: (z 55) :: (z 56) :: (z 57) :: (z 58) :: (z 59) :: (z 60) :: (z 61) :: (z 62) :: (z 63) :: (z 64) :: (z 65) :: (z 66) :: (z 67) :: (z 68) :: (z 69) :: (z 70) :: (z 71) :: (z 72) :: (z 73) :: (z 74) :: (z 75) :: (z 76) :: (z 77) :: (z 78) :: (z 79) :: (z 80) :: (z 81) :: (z 82) :: (z 83) :: (z 84) :: (z 85) :: (z 86) :: (z 87) :: (z 88) :: (z 89) :: (z 90) :: (z 91) :: (z 92) :: (z 93) :: (z 94) :: (z 95) :: (z 96) :: (z 97) :: (z 98) :: (z 99) :: (z 100) :: (z 101) :: (z 102) :: (z 103) :: (z 104) :: (z 105) :: (z 106) :: (z 107) :: (z 108) :: (z 109) :: (z 110) :: (z 111) :: (z 112) :: (z 113) :: (z 114) :: (z 115) :: (z 116) :: (z 117) :: (z 118) :: (z 119) :: (z 120) :: (z 121) :: (z 122) :: (z 123) :: (z 124) :: (z 125) :: (z 126) :: (z 127) :: (z 128) :: (z 129) :: (z 130) :: (z 131) :: (z 132) :: (z 133) :: (z 134) :: (z 135) :: (z 136) :: (z 137) :: (z 138) :: (z 139) :: (z 140) :: (z 141) :: (z 142) :: (z 143) :: (z 144) :: (z 145) :: q146 :: q147 :: q148 :: q149 :: q150 :: q151 :: q152 :: q153 :: q154 :: q155 :: q156 :: q157 :: q158 :: q159 :: q160 :: q161 :: q162 :: q163 :: q164 :: q165 :: q166 :: q167 :: q168 :: q169 :: q170 :: q171 :: q172 :: q173 :: q174 :: q175 :: q176 :: q177 :: q178 :: q179 :: q180 :: q181 :: q182 :: q183 :: q184 :: q185 :: q186 :: q187 :: q188 :: q189 :: q190 :: q191 :: q192 :: q193 :: q194 :: q195 :: q196 :: q197 :: q198 :: q199 :: q200 :: q201 :: []), defers := [] } ∧ WyW w W' n gs Bw seen' bys' (ord ++ ext) vw' ∧ BfE E F u n seen' bys' (ord ++ ext) ∧ DnE E F (ord ++ ext) v nE) ({ tmps := List.toArray (q0 :: vE :: (.slice (some ⟨gf, 0, none⟩) nE nE) :: q3 :: q4 :: q5 :: q6 :: (.slice (some ⟨w.heap.size, 0, none⟩) n n) :: (.slice (some ⟨gs, 0, none⟩) n n) :: vw :: (.int .i64 (k : Nat)) :: q11 :: q12 :: q13 :: q14 :: q15 :: q16 :: q17 :: q18 :: q19 :: q20 :: q21 :: q22 :: q23 :: q24 :: q25 :: q26 :: q27 :: q28 :: q29 :: q30 :: q31 :: q32 :: q33 :: q34 :: q35 :: q36 :: q37 :: q38 :: q39 :: q40 :: q41 :: q42 :: q43 :: q44 :: q45 :: q46 :: q47 :: q48 :: q49 :: q50 :: q51 :: q52 :: q53 :: q54 :: q55 :: q56 :: q57 :: q58 :: q59 :: q60 :: q61 :: q62 :: q63 :: q64 :: q65 :: q66 :: q67 :: q68 :: q69 :: q70 :: q71 :: q72 :: q73 :: q74 :: q75 :: q76 :: q77 :: q78 :: q79 :: q80 :: q81 :: q82 :: q83 :: q84 :: q85 :: q86 :: q87 :: q88 :: q89 :: q90 :: q91 :: q92 :: q93 :: q94 :: q95 :: q96 :: q97 :: q98 :: q99 :: q100 :: q101 :: q102 :: q103 :: q104 :: q105 :: q106 :: q107 :: q108 :: q109 :: q110 :: q111 :: q112 :: q113 :: q114 :: q115 :: q116 :: q117 :: q118 :: q119 :: q120 :: q121 :: q122 :: q123 :: q124 :: q125 :: q126 :: q127 :: q128 :: q129 :: q130 :: q131 :: q132 :: q133 :: q134 :: q135 :: q136 :: q137 :: q138 :: q139 :: q140 :: q141 :: q142 :: q143 :: q144 :: q145 :: q146 :: q147 :: q148 :: q149 :: q150 :: q151 :: q152 :: q153 :: q154 :: q155 :: q156 :: q157 :: q158 :: q159 :: q160 :: q161 :: q162 :: q163 :: q164 :: q165 :: q166 :: q167 :: q168 :: q169 :: q170 :: q171 :: q172 :: q173 :: q174 :: q175 :: q176 :: q177 :: q178 :: q179 :: q180 :: q181 :: q182 :: q183 :: q184 :: q185 :: q186 :: q187 :: q188 :: q189 :: q190 :: q191 :: q192 :: q193 :: q194 :: q195 :: q196 :: q197 :: q198 :: q199 :: q200 :: q201 :: []), defers := [] }) wr := by
  obtain ⟨Q, hQ⟩ : ∃ Q : Exit → Act → World → Prop, (fun (e : Exit) (a : Act) (W' : World) => e = .normal ∧ ∃ (vw' : Value) (seen' : List Bool) (bys' : List Int) (ext : List Nat) (s11 : Value) (z : Nat → Value), a = { tmps := List.toArray (q0 :: vE :: (.slice (some ⟨gf, 0, none⟩) nE nE) :: q3 :: q4 :: q5 :: q6 :: (.slice (some ⟨w.heap.size, 0, none⟩) n n) :: (.slice (some ⟨gs, 0, none⟩) n n) :: vw' :: (.int .i64 (k : Nat)) :: s11 :: q12 :: q13 :: q14 :: q15 :: q16 :: q17 :: q18 :: q19 :: q20 :: q21 :: q22 :: q23 :: q24 :: q25 :: q26 :: q27 :: q28 :: q29 :: (z 30) :: (z 31) :: (z 32) :: (z 33) :: (z 34) :: (z 35) :: (z 36) :: (z 37) :: (z 38) :: (z 39) :: (z 40) :: (z 41) :: (z 42) :: (z 43) :: (z 44) :: (z 45) :: (z 46) :: (z 47) :: (z 48) :: (z 49) :: (z 50) :: (z 51) :: (z 52) :: (z 53) :: (z 54) :: (z 55) :: (z 56) :: (z 57) :: (z 58) :: (z 59) :: (z 60) :: (z 61) :: (z 62) :: (z 63) :: (z 64) :: (z 65) :: (z 66) :: (z 67) :: (z 68) :: (z 69) :: (z 70) :: (z 71) :: (z 72) :: (z 73) :: (z 74) :: (z 75) :: (z 76) :: (z 77) :: (z 78) :: (z 79) :: (z 80) :: (z 81) :: (z 82) :: (z 83) :: (z 84) :: (z 85) :: (z 86) :: (z 87) :: (z 88) :: (z 89) :: (z 90) :: (z 91) :: (z 92) :: (z 93) :: (z 94) :: (z 95) :: (z 96) :: (z 97) :: (z 98) :: (z 99) :: (z 100) :: (z 101) :: (z 102) :: (z 103) :: (z 104) :: (z 105) :: (z 106) :: (z 107) :: (z 108) :: (z 109) :: (z 110) :: (z 111) :: (z 112) :: (z 113) :: (z 114) :: (z 115) :: (z 116) :: (z 117) :: (z 118) :: (z 119) :: (z 120) :: (z 121) :: (z 122) :: (z 123) :: (z 124) :: (z 125) :: (z 126) :: (z 127) :: (z 128) :: (z 129) :: (z 130) :: (z 131) :: (z 132) :: (z 133) :: (z 134) :: (z 135) :: (z 136) :: (z 137) :: (z 138) :: (z 139) :: (z 140) :: (z 141) :: (z 142) :: (z 143) :: (z 144) :: (z 145) :: q146 :: q147 :: q148 :: q149 :: q150 :: q151 :: q152 :: q153 :: q154 :: q155 :: q156 :: q157 :: q158 :: q159 :: q160 :: q161 :: q162 :: q163 :: q164 :: q165 :: q166 :: q167 :: q168 :: q169 :: q170 :: q171 :: q172 :: q173 :: q174 :: q175 :: q176 :: q177 :: q178 :: q179 :: q180 :: q181 :: q182 :: q183 :: q184 :: q185 :: q186 :: q187 :: q188 :: q189 :: q190 :: q191 :: q192 :: q193 :: q194 :: q195 :: q196 :: q197 :: q198 :: q199 :: q200 :: q201 :: []), defers := [] } ∧ WyW w W' n gs Bw seen' bys' (ord ++ ext) vw' ∧ BfE E F u n seen' bys' (ord ++ ext) ∧ DnE E F (ord ++ ext) v nE) = Q := ⟨_, rfl⟩
  rw [hQ]
  have HQ := Lib.hid hQ
  clear hQ
  obtain ⟨pf, hpf⟩ : ∃ p, p125f = p := ⟨_, rfl⟩
  obtain ⟨pb, hpb⟩ : ∃ p, p125b = p := ⟨_, rfl⟩
  have HPF := Lib.hid hpf
  have HPB := Lib.hid hpb
  simp only [p125f, b125c, i125, b125, lq125, c125, Tryz.f125, Option.getD, codeL, codeR] at hpf
  simp only [p125b, b125c, i125, b125, lq125, c125, Tryz.f125, Option.getD, codeL, codeR] at hpb
  obtain ⟨aE, rfl⟩ := hV
  have HA := Lib.hid (show 0 < nE → ∃ bl ol, aE = some ⟨bl, ol, none⟩ ∧ EdAt w bl ol E from fun h => by
    obtain ⟨bl, ol, e, h2⟩ := hA h
    injection e with e1 e2 e3
    exact ⟨bl, ol, e1, h2⟩)
  have HF := Lib.hid hF
  have HFB := Lib.hid hfb
  have HE := Lib.hid hE
  have HW0 := Lib.hid hw
  have HB0 := Lib.hid hb
  have HV := Lib.hid hk
  have HL := Lib.hid hl
  have HFL := Lib.hid hfl
  clear hA hF hE hw hb hk hl hfl hfb
  simp only [i125, b125, lq125, c125, Tryz.f125, Option.getD, codeL, codeR]
  have HPF2 := Lib.hid hpf
  have HPB2 := Lib.hid hpb
  clear hpf hpb
  go_wp2_with fail
  go_loopw [11, 9] (fun i o wr => ∃ (j : Nat) (vw : Value) (seen : List Bool) (bys : List Int) (ext : List Nat), j ≤ nE ∧ i = .int .i64 j ∧ o = vw ∧ WyW w wr n gs Bw seen bys (ord ++ ext) vw ∧ BfE E F u n seen bys (ord ++ ext) ∧ DnE E F (ord ++ ext) v j) (fun i _ _ => nE - (intOf i).toNat)
  case atStart => exact ⟨0, _, _, _, [], by omega, rfl, rfl, by rw [List.append_nil]; exact HW0.out, by rw [List.append_nil]; exact HB0.out, DnE.zero _ _ _ _⟩
  case round =>
    clear HW0 HB0
    obtain ⟨j, vw, seen, bys, ext, hj, rfl, rfl, hw, hb, hd⟩ := hrel
    have HW := Lib.hid hw
    have HB := Lib.hid hb
    have HD := Lib.hid hd
    clear hw hb hd
    by_cases hjl : j < nE
    · rw [HPF2.out, HPB2.out]
      obtain ⟨bl, ol, rfl, hAA⟩ := HA.out (by omega)
      have HAA := Lib.hid hAA
      clear hAA
      go_wp2_with fail
      obtain ⟨⟨fr, to⟩, har⟩ : ∃ a, E.getD j ed0 = a := ⟨_, rfl⟩
      have hends := HE.out (E.getD j ed0) (by rw [edGet (by rw [HL.out]; exact hjl)]; exact List.getElem_mem _)
      rw [har] at hends
      obtain ⟨he1, he2, he3⟩ := hends
      rw [← HPF.out]
      refine wp_mono (p125f_walk w _ n gs Bw nE cE gf E F u v k j _ _ _ _ bl ol HAA.out HF.out HL.out HFL.out HFB.out hnc hE4 hn HW.out HB.out (getE_app HV.out) hjl fr to har he3 he1 he2) ?_
      rintro e a W2 ⟨rfl, vw2, seen2, bys2, ext2, z2, rfl, hw2, hb2, hf2⟩
      rw [List.append_assoc] at hw2 hb2 hf2
      have HW2 := Lib.hid hw2
      have HB2 := Lib.hid hb2
      have HF2 := Lib.hid hf2
      clear hw2 hb2 hf2
      go_wp2_with fail
      rw [← HPB.out]
      refine wp_mono (p125b_walk w _ n gs Bw nE cE gf E F u v k j _ _ _ _ bl ol HAA.out HF.out HL.out HFL.out HFB.out hnc hE4 hn HW2.out HB2.out (getE_app HV.out) hjl fr to har he3 he1 he2) ?_
      rintro e a W3 ⟨rfl, vw3, seen3, bys3, ext3, z3, rfl, hw3, hb3, hf3⟩
      rw [List.append_assoc, List.append_assoc] at hw3 hb3 hf3
      have HW3 := Lib.hid hw3
      have HB3 := Lib.hid hb3
      have HF3 := Lib.hid hf3
      clear hw3 hb3 hf3
      go_wp2_with fail
      go_roundw
      case rel =>
        refine ⟨j + 1, _, seen3, bys3, ext ++ (ext2 ++ ext3), by omega, by go_num, rfl, HW3.out, HB3.out, ?_⟩
        have h1 : DnE E F (ord ++ (ext ++ (ext2 ++ ext3))) v j := by rw [← List.append_assoc]; exact HD.out.more _
        refine h1.succ ?_ ?_
        · rw [har]; intro h2 h3
          have := HF2.out h2 h3
          simp only [List.mem_append] at this ⊢
          rcases this with h | h | h <;> simp [h]
        · rw [har]; intro h2 h3
          exact HF3.out h2 h3
      case measure => simp [intOf]; omega
    · obtain rfl : nE = j := by omega
      go_wp2_with fail
      rw [← HQ.out]
      exact ⟨rfl, _, seen, bys, ext, _, fun i => [_, _, _, _, _, _, _, _, _, _, _, _, _, _, _, _, _, _, _, _, _, _, _, _, _, _, _, _, _, _, _, _, _, _, _, _, _, _, _, _, _, _, _, _, _, _, _, _, _, _, _, _, _, _, _, _, _, _, _, _, _, _, _, _, _, _, _, _, _, _, _, _, _, _, _, _, _, _, _, _, _, _, _, _, _, _, _, _, _, _, _, _, _, _, _, _, _, _, _, _, _, _, _, _, _, _, _, _, _, _, _, _, _, _, _, _].getD (i - 30) undef, rfl, HW.out, HB.out, HD.out⟩
end Go.Proofs.YtahpdkkpnkhnhaaGreatDoor
/- Walks: the reference raises the flow by one path. -/
namespace Go.Proofs.YtahpdkkpnkhnhaaGreatDoor
open Go Go.Proofs Go.RowKit Go.Shelf
def RaiseP (w : World) (Bf gf nE N : Nat) (E : List Ed) (F : List Int) (s t : Nat) (n : Int) (e : Ending) (w' : World) : Prop :=
  ∃ b F', e = .returned (.bool b) ∧ Own encI 1 3 w' Bf (.slice (some ⟨gf, 0, none⟩) nE nE) F' ∧ F'.length = nE ∧ FlB F' ∧ Kept (fun k => k = gf) w w' ∧ (b = true → RFlow N (capE E) (resE E F') (valX s t (n + 1))) ∧
    (b = false → F' = F ∧ ∃ T : List Nat, s ∈ T ∧ t ∉ T ∧ ∀ i j, i < N → j < N → i ∈ T → j ∉ T → resE E F i j = 0)
structure BkM (w wr : World) (N Bf gf nE : Nat) (bys F : List Int) : Prop where
  by' : Own encI 1 3 wr w.heap.size (.slice (some ⟨w.heap.size, 0, none⟩) N N) bys
  fl : Own encI 1 3 wr Bf (.slice (some ⟨gf, 0, none⟩) nE nE) F
  kp : Kept (fun k => k = gf) w wr
  lt : gf < w.heap.size
  bn : bys.length = N
  fn : F.length = nE
theorem BkM.set {w wr : World} {N Bf gf nE : Nat} {bys F : List Int} (h : BkM w wr N Bf gf nE bys F) {i : Nat} (hi : i < nE) (x : Int) : BkM w (wr.setCell ⟨gf, i, none⟩ (.int .i64 x)) N Bf gf nE bys (F.set i x) := by
  have h1 := h.fl.setN h.fn encI_len i (by rw [h.fn]; exact hi) 0 (by omega) (.int .i64 x) x rfl
  rw [Nat.mul_one, Nat.add_zero] at h1
  exact ⟨h.by'.other _ (fun e => by simp [Value.ownBlock] at e; have := h.lt; omega), h1, h.kp.set _ (.inl rfl), h.lt, h.bn, by rw [List.length_set]; exact h.fn⟩
theorem BkM.byc {w wr : World} {N Bf gf nE : Nat} {bys F : List Int} (h : BkM w wr N Bf gf nE bys F) {i : Nat} {x : Int} (hx : bys[i]? = some x) : wr.cell? ⟨w.heap.size, i, none⟩ = some (.int .i64 x) := by
  obtain ⟨hi, e⟩ := List.getElem?_eq_some_iff.1 hx
  have := (h.by'.atN h.bn encI_len i hi).c1
  rwa [Nat.mul_one, e] at this
theorem BkM.flc {w wr : World} {N Bf gf nE : Nat} {bys F : List Int} (h : BkM w wr N Bf gf nE bys F) {i : Nat} (hi : i < nE) : wr.cell? ⟨gf, i, none⟩ = some (.int .i64 (F.getD i 0)) := by
  have hi' : i < F.length := by rw [h.fn]; exact hi
  have := (h.fl.atN h.fn encI_len i hi').c1
  rw [Nat.mul_one] at this
  rw [this, List.getD_eq_getElem?_getD, List.getElem?_eq_getElem hi']; rfl
theorem EdAt.ck {w wr : World} {bl ol gf : Nat} {E : List Ed} (h : EdAt w bl ol E) (hk : Kept (fun k => k = gf) w wr) (hne : bl ≠ gf) {i : Nat} (hi : i < E.length) {u v : Nat} (he : E.getD i ed0 = ⟨u, v⟩) :
    wr.cell? ⟨bl, ol + i * 3, none⟩ = some (.int .i64 u) ∧ wr.cell? ⟨bl, ol + i * 3 + 1, none⟩ = some (.int .i64 v) := by
  obtain ⟨h1, h2, _⟩ := h.c (Below.refl _ _) hi he
  have hb := hk.block bl h.lt hne
  rw [← h1, ← h2]
  simp only [World.cell?, hb]
  exact ⟨trivial, trivial⟩
set_option maxRecDepth 100000 in
set_option maxHeartbeats 4000000 in
theorem raise125 (w : World) (vE : Value) (Be Bf gf nE N s t : Nat) (E : List Ed) (F : List Int) (n : Int) (hE : Own Ed.enc 3 181 w Be vE E) (hF : Own encI 1 3 w Bf (.slice (some ⟨gf, 0, none⟩) nE nE) F) (hl : E.length = nE) (hfl : F.length = nE) (hfb : FlB F)
    (hE4 : nE ≤ 1000) (hN : N ≤ 1000) (hs : s + 2 = N) (ht : t + 1 = N) (hEe : ∀ e ∈ E, e.u < N ∧ e.v < N ∧ e.u ≠ e.v) (hfw : RFlow N (capE E) (resE E F) (valX s t n)) :
    Calls Tryz.prog 125 #[.int .i64 N, vE, .slice (some ⟨gf, 0, none⟩) nE nE] w (RaiseP w Bf gf nE N E F s t n) := by
  obtain ⟨Q, hQ⟩ : ∃ Q, RaiseP w Bf gf nE N E F s t n = Q := ⟨_, rfl⟩
  rw [hQ]
  have HQ : Hid (∀ b F' w', Own encI 1 3 w' Bf (.slice (some ⟨gf, 0, none⟩) nE nE) F' → F'.length = nE → FlB F' → Kept (fun k => k = gf) w w' → (b = true → RFlow N (capE E) (resE E F') (valX s t (n + 1))) → (b = false → F' = F ∧ ∃ T : List Nat, s ∈ T ∧ t ∉ T ∧ ∀ i j, i < N → j < N → i ∈ T → j ∉ T → resE E F i j = 0) → Q (.returned (.bool b)) w') := Lib.hid (fun b F' w' h1 h2 h3 h4 h5 h6 => by rw [← hQ]; exact ⟨b, F', rfl, h1, h2, h3, h4, h5, h6⟩)
  clear hQ
  have hgf := hF.ltN.2
  have HEA : Hid (∃ aE cE, vE = .slice aE nE cE ∧ nE ≤ cE ∧ (0 < nE → ∃ bl ol, aE = some ⟨bl, ol, none⟩ ∧ EdAt w bl ol E ∧ bl ≠ gf)) := Lib.hid (by
    rcases hE.2 with ⟨e, h0⟩ | ⟨g, cap, cur, e, _, hg, hc, _⟩
    · exact ⟨none, 0, by rw [e, ← hl, show E.length = 0 from h0], by rw [← hl, show E.length = 0 from h0]; exact Nat.le_refl _, fun h => by rw [← hl, show E.length = 0 from h0] at h; omega⟩
    · refine ⟨some ⟨g, 0, none⟩, cap, by rw [e, hl], by rw [← hl]; exact hc, fun h => ⟨g, 0, rfl, ⟨?_, fun i hi => ?_⟩, fun hne => ?_⟩⟩
      · exact (Array.getElem?_eq_some_iff.1 hg).1
      · subst e
        have := hE.atN rfl Ed.enc_len i hi
        rwa [Nat.zero_add]
      · subst hne
        subst e
        exact hE.two_types hF (by decide) g rfl rfl)
  obtain ⟨aE, cE, rfl, hnc, hEA⟩ := HEA.out
  have HA := Lib.hid hEA
  have HFA : Hid (FlAt w gf F) := Lib.hid ⟨hgf, fun i hi => by
    have := (hF.atN hfl encI_len i hi).c1
    rw [Nat.mul_one] at this
    rw [this, List.getD_eq_getElem?_getD, List.getElem?_eq_getElem hi]; rfl⟩
  have HF := Lib.hid hF
  have HL := Lib.hid hl
  have HFL := Lib.hid hfl
  have HFB := Lib.hid hfb
  have HEE := Lib.hid hEe
  have HFW := Lib.hid hfw
  have HGF := Lib.hid hgf
  clear HEA hEA hE hF hl hfl hfb hEe hfw hgf
  obtain ⟨pi, hpi⟩ : ∃ p, i125 = p := ⟨_, rfl⟩
  have HPI := Lib.hid hpi
  simp only [i125, b125, lq125, c125, Tryz.f125, Option.getD, codeL, codeR] at hpi
  have HPI2 := Lib.hid hpi
  clear hpi
  have k0 : IntKind.i64.wrap ((N : Int) - 2) = (s : Int) := by rw [IntWalk.i64_in _ (by omega)]; omega
  have k1 : IntKind.i64.wrap ((N : Int) - 1) = (t : Int) := by rw [IntWalk.i64_in _ (by omega)]; omega
  have hsN : s < N := by omega
  have htN : t < N := by omega
  go_enter Tryz.func125, Tryz.ntmps125
  go_wp2_with (first | (at_make; refine wpList_mk1 encI 0 (.int .i64 0) rfl 26 3 8 Tryz.underlying26 infoI rfl (by decide) w.heap.size w N (by omega) (Nat.le_refl _) rfl _ _ rfl .i64 .i64 rfl rfl ?_; intro w2 hown2 hgr2; have HO2 := Lib.hid hown2; have HG2 := Lib.hid hgr2; clear hown2 hgr2) | (at_make; refine wpList_mk1 encB false (.bool false) rfl 135 4 1 Tryz.underlying135 infoB rfl (by decide) w.heap.size w2 N (by omega) (grown_none_below HG2.out).size rfl _ _ rfl .i64 .i64 rfl rfl ?_; intro w3 hown3 hgr3; have HO3 := Lib.hid hown3; have HG3 := Lib.hid hgr3; have ofz := (hown3.later ((Below.refl w3.heap.size w3).alloc (Nat.le_refl _) (.cells #[.int .i64 (s : Int)] 3))).frozenN (by simp); have o0 := ((hown3.later ((Below.refl w3.heap.size w3).alloc (Nat.le_refl _) (.cells #[.int .i64 (s : Int)] 3))).atN (by simp) encB_len s (by simp; omega)).c1; rw [Nat.mul_one, List.getElem_replicate] at o0; have oz := hown3.ltN.2; clear hown3 hgr3))
  have HW0 : Hid (WyW w ((w3.setCell ⟨w2.heap.size, s, none⟩ (.bool true)).alloc (.cells #[.int .i64 (s : Int)] 3)) N w2.heap.size w3.heap.size ((List.replicate N false).set s true) (List.replicate N 0) [s] (.slice (some ⟨w3.heap.size, 0, none⟩) 1 1)) := Lib.hid (by
    have h0 : WyW w w3 N w2.heap.size w3.heap.size (List.replicate N false) (List.replicate N 0) [] (.slice none 0 0) :=
      ⟨(grown_none_below HG2.out).trans ((grown_none_below HG3.out).mono (grown_none_below HG2.out).size), HO2.out.later (grown_none_below HG3.out), HO3.out, Own.nil _ _ _ _ _, by simp, by simp, (World.ownsRow.lt HO2.out _ rfl).2, (World.ownsRow.lt HO3.out _ rfl).2, Nat.le_refl _⟩
    have h1 := (h0.setSeen hsN).alloc (.cells #[.int .i64 (s : Int)] 3)
    have o := Own.lit (f := encI) (sz := 1) (l := outI [s]) encI_len 3 (w3.setCell ⟨w2.heap.size, s, none⟩ (.bool true)) #[.int .i64 (s : Int)] 1 w3.heap.size rfl rfl (by simp [outI]) (by simp)
    rw [World.size_setCell] at o
    exact ⟨h1.below, h1.by', h1.seenO, o, h1.bn, h1.sn, h1.gs1, h1.gs2, h1.bsz⟩)
  clear HO2 HG2 HO3 HG3 ofz o0 oz
  generalize (w3.setCell ⟨w2.heap.size, s, none⟩ (.bool true)).alloc (.cells #[.int .i64 (s : Int)] 3) = w5 at *
  generalize w2.heap.size = gs at *
  generalize w3.heap.size = Bw at *
  have HBS := Lib.hid (BfE.start E F s N hsN)
  go_loopw [10, 9] (fun i o wr => ∃ (k : Nat) (vw : Value) (seen : List Bool) (bys : List Int) (ord : List Nat), k ≤ ord.length ∧ i = .int .i64 k ∧ o = vw ∧ WyW w wr N gs Bw seen bys ord vw ∧ BfE E F s N seen bys ord ∧ (∀ j (h : j < ord.length), j < k → DnE E F ord ord[j] nE)) (fun i _ _ => N - (intOf i).toNat)
  case atStart => exact ⟨0, _, _, _, _, by omega, rfl, rfl, HW0.out, HBS.out, fun _ _ h => by omega⟩
  case round =>
    clear HW0 HBS
    obtain ⟨k, vw, seen, bys, ord, hk, rfl, rfl, hw, hb, hd⟩ := hrel
    have hct := hb.count
    obtain ⟨gw, cw2, hsh, hgw, hgwz⟩ := hw.form (List.length_pos_of_mem hb.hd)
    obtain ⟨v, hv⟩ : ∃ v, k < ord.length → ord[k]? = some v := by
      by_cases h : k < ord.length
      · exact ⟨ord[k], fun _ => List.getElem?_eq_getElem h⟩
      · exact ⟨0, fun h2 => absurd h2 h⟩
    have HV := Lib.hid hv
    have HW := Lib.hid hw
    have HB := Lib.hid hb
    have HD := Lib.hid hd
    have HSH := Lib.hid hsh
    obtain ⟨lo, hlo⟩ : ∃ n, ord.length = n := ⟨_, rfl⟩
    rw [hlo] at hsh hk hct
    have HLO := Lib.hid hlo
    clear hw hb hd hv hlo
    subst hsh
    by_cases hlt : k < lo
    · have HVV := Lib.hid (HV.out (by rw [HLO.out]; exact hlt))
      rw [HPI2.out]
      go_wp2_with fail
      rw [← HPI.out]
      refine wp_mono (i125_walk w wr N gs Bw nE cE gf (.slice aE nE cE) E F s v k seen bys ord _ (fun h => by obtain ⟨bl, ol, e, h1, _⟩ := HA.out h; exact ⟨bl, ol, by rw [e], h1⟩) ⟨_, rfl⟩ HFA.out HL.out HFL.out HFB.out hnc hE4 hN HEE.out HW.out HB.out HVV.out) ?_
      rintro e a W2 ⟨rfl, vw2, seen2, bys2, ext, s11, z2, rfl, hw2, hb2, hd2⟩
      have HW2 := Lib.hid hw2
      have HB2 := Lib.hid hb2
      have HD2 := Lib.hid hd2
      clear hw2 hb2 hd2
      go_wp2_with fail
      go_roundw
      case rel =>
        refine ⟨k + 1, _, seen2, bys2, ord ++ ext, by rw [List.length_append, HLO.out]; omega, by go_num, rfl, HW2.out, HB2.out, fun j hj hjk => ?_⟩
        have hjl : j < ord.length := by rw [HLO.out]; omega
        rw [List.getElem_append_left hjl]
        by_cases e : j = k
        · subst e
          have := HVV.out
          rw [List.getElem?_eq_getElem hjl] at this
          rw [Option.some.inj this]
          exact HD2.out
        · exact (HD.out j hjl (by omega)).more _
      case measure => simp [intOf]; omega
    · obtain rfl : lo = k := by omega
      obtain ⟨z1, z2⟩ := HW.out.gsz
      have zc := HW.out.seenc htN
      have hmem := HB.out.mem t htN
      have HCL := Lib.hid (show ∀ v ∈ ord, DnE E F ord v E.length from fun v hv => by
        obtain ⟨j, hj, rfl⟩ := List.mem_iff_getElem.1 hv
        rw [HL.out]
        exact HD.out j hj (by rw [HLO.out] at hj; exact hj))
      obtain ⟨st, hst⟩ : ∃ b, seen.getD t false = b := ⟨_, rfl⟩
      rw [hst] at zc hmem
      have HM := Lib.hid hmem
      clear hst hmem
      cases st with
      | false =>
        go_wp2_with fail
        exact HQ.out false F _ (HF.out.kept (row := none) ⟨HW.out.below.os, HW.out.below.tape, HW.out.below.output, HW.out.below.size, fun k hk _ => HW.out.below.block k hk⟩ (.inr (by simp [Value.ownBlock]))) HFL.out HFB.out ((Kept.refl _ w).below HW.out.below) (fun h => by cases h) (fun _ => ⟨rfl, ord, HB.out.hd, fun h => (by have := HM.out.2 h; cases this), fun i j _ _ hi hj => BfE.closed (by rw [HFL.out, HL.out]) HFB.out HCL.out hi hj⟩)
      | true =>
        have HT0 := Lib.hid (HM.out.1 rfl)
        have HK0 : Hid (BkE N E F F ord s t n t) := Lib.hid (BkE.start (by rw [HFL.out, HL.out]) HFB.out HFW.out HT0.out)
        have HM0 : Hid (BkM w wr N Bf gf nE bys F) := Lib.hid ⟨HW.out.by', HF.out.kept (row := none) ⟨HW.out.below.os, HW.out.below.tape, HW.out.below.output, HW.out.below.size, fun k hk _ => HW.out.below.block k hk⟩ (.inr (by simp [Value.ownBlock])), (Kept.refl _ w).below HW.out.below, HGF.out, HW.out.bn, HFL.out⟩
        go_wp2_with fail
        clear zc z1 z2
        generalize wr = U at *
        go_loopw [12] (fun i wr => ∃ (v : Nat) (F' : List Int), i = .int .i64 v ∧ BkE N E F F' ord s t n v ∧ BkM w wr N Bf gf nE bys F') (fun i _ => ord.idxOf (intOf i).toNat)
        case atStart => exact ⟨t, F, rfl, HK0.out, HM0.out⟩
        case round =>
          clear HK0 HM0
          obtain ⟨v, F', rfl, hbk, hm⟩ := hrel
          by_cases hvs : v = s
          · subst hvs
            have b1 : ((v : Int) != (v : Int)) = false := by simp
            have HBK := Lib.hid hbk
            have HMM := Lib.hid hm
            clear hbk hm
            go_wp2_with fail
            exact HQ.out true F' _ HMM.out.fl HMM.out.fn HBK.out.bd HMM.out.kp (fun _ => HBK.out.done) (fun h => by cases h)
          have b1 : ((v : Int) != (s : Int)) = true := by rw [bne_iff_ne]; omega
          obtain ⟨i, fwd, k, hby, hi, hkN, hidx, hv1, hv2, hnext⟩ := hbk.step HEE.out HB.out hvs
          rw [HL.out] at hi
          obtain ⟨⟨eu, ev⟩, he⟩ : ∃ e, E.getD i ed0 = e := ⟨_, rfl⟩
          rw [he] at hv1 hv2
          dsimp only at hv1 hv2
          obtain ⟨bl, ol, rfl, hea, hne⟩ := HA.out (by omega)
          obtain ⟨e0, e1⟩ := hea.ck hm.kp hne (by rw [HL.out]; exact hi) he
          have hblz : bl < wr.heap.size := Nat.lt_of_lt_of_le hea.lt hm.kp.size
          have cby := hm.byc hby
          have hbyz := hm.by'.ltN.2
          have cfl := hm.flc hi
          have cff := hm.fl.frozenN hm.fn
          have cfz := hm.fl.ltN.2
          have hvN : v < N := HB.out.lt v hbk.mv
          obtain ⟨hf0, hf1⟩ := flB_get hbk.bd i
          have HNX := Lib.hid hnext
          have HMM := Lib.hid hm
          have HIX := Lib.hid hidx
          have HEA2 := Lib.hid hea
          have HNE2 := Lib.hid hne
          have HE2 := Lib.hid he
          have HBY := Lib.hid hby
          obtain ⟨fx, hfx⟩ : ∃ y, F'.getD i 0 = y := ⟨_, rfl⟩
          rw [hfx] at cfl hf0 hf1 HNX
          clear hfx hnext hm hidx hea hne he hby hbk
          cases fwd with
          | true =>
            simp only [if_true] at hv1 hv2 HNX
            subst hv1 hv2
            have hcd : codeE i true = (i : Int) + 1 := rfl
            rw [hcd] at cby HBY
            have d1 : decide ((0 : Int) < (i : Int) + 1) = true := decide_eq_true (by omega)
            have k5 : IntKind.i64.wrap ((i : Int) + 1 - 1) = (i : Int) := by rw [IntWalk.i64_in _ (by omega)]; omega
            have k6 : IntKind.i64.wrap (fx + 1) = fx + 1 := IntWalk.i64_in _ (by omega)
            have HM2 := Lib.hid (HMM.out.set hi (fx + 1))
            have cby2 := HM2.out.byc HBY.out
            have hbyz2 := HM2.out.by'.ltN.2
            obtain ⟨f0, f1⟩ := HEA2.out.ck HM2.out.kp HNE2.out (by rw [HL.out]; exact hi) HE2.out
            have hblz2 : bl < (wr.setCell ⟨gf, i, none⟩ (.int .i64 (fx + 1))).heap.size := Nat.lt_of_lt_of_le HEA2.out.lt HM2.out.kp.size
            go_wp2_with fail
            go_roundw
            case rel => exact ⟨eu, _, rfl, HNX.out, HM2.out⟩
            case measure => simp only [intOf, Int.toNat_natCast]; exact HIX.out
          | false =>
            simp only [Bool.false_eq_true, if_false] at hv1 hv2 HNX
            subst hv1 hv2
            obtain ⟨bv, hbv⟩ : ∃ x, codeE i false = x := ⟨_, rfl⟩
            rw [hbv] at cby HBY
            have hbv2 : -(i : Int) - 1 = bv := hbv
            have d1 : decide ((0 : Int) < bv) = false := decide_eq_false (by omega)
            have k4 : IntKind.i64.wrap (0 - bv) = (i : Int) + 1 := by rw [IntWalk.i64_in _ (by omega)]; omega
            have k4' : IntKind.i64.wrap (-bv) = (i : Int) + 1 := by rw [IntWalk.i64_in _ (by omega)]; omega
            have k5 : IntKind.i64.wrap ((i : Int) + 1 - 1) = (i : Int) := by rw [IntWalk.i64_in _ (by omega)]; omega
            clear hbv hbv2
            have k6 : IntKind.i64.wrap (fx - 1) = fx + -1 := by rw [IntWalk.i64_in _ (by omega)]; omega
            have HM2 := Lib.hid (HMM.out.set hi (fx + -1))
            have cby2 := HM2.out.byc HBY.out
            have hbyz2 := HM2.out.by'.ltN.2
            obtain ⟨f0, f1⟩ := HEA2.out.ck HM2.out.kp HNE2.out (by rw [HL.out]; exact hi) HE2.out
            have hblz2 : bl < (wr.setCell ⟨gf, i, none⟩ (.int .i64 (fx + -1))).heap.size := Nat.lt_of_lt_of_le HEA2.out.lt HM2.out.kp.size
            go_wp2_with fail
            go_roundw
            case rel => exact ⟨ev, _, rfl, HNX.out, HM2.out⟩
            case measure => simp only [intOf, Int.toNat_natCast]; exact HIX.out
end Go.Proofs.YtahpdkkpnkhnhaaGreatDoor
/- Walks: Most of the reference. -/
namespace Go.Proofs.YtahpdkkpnkhnhaaGreatDoor
open Go Go.Proofs Go.RowKit Go.Shelf
def RMostP (w : World) (p : Pl) (src snk : List Int) (e : Ending) (w' : World) : Prop := ∃ k F T, e = .returned (.int .i64 k) ∧ RefM p src snk F T k ∧ Below w.heap.size w w'
theorem capE_le1 {p : Pl} (hok : OkP p) {src snk F : List Int} {k : Int} (h : RFlow (2 * p.ms.length + 2) (capE (edgesL p src snk)) (resE (edgesL p src snk) F) (valX (2 * p.ms.length) (2 * p.ms.length + 1) k)) : k ≤ 33800 := by
  have hle := hok.le
  have h1 := h.le_cap (by omega) (fun i => decide (i = 2 * p.ms.length)) (by simp) (by simp)
  have h2 : capS (2 * p.ms.length + 2) (capE (edgesL p src snk)) (fun i => decide (i = 2 * p.ms.length)) ≤ (2 * p.ms.length + 2 : Nat) * 260 := by
    unfold capS
    refine sumF_bd fun i _ => ?_
    refine Int.le_trans (sumF_bd (c := 2) fun j _ => ?_) (by omega)
    have := capE_le (i := i) (j := j) (edgesL_nodup hok (src := src) (snk := snk))
    split <;> omega
  omega
set_option maxRecDepth 100000 in
set_option maxHeartbeats 2000000 in
theorem most64 (w : World) (v1 v2 s t : Value) (p : Pl) (src snk : List Int) (hv : PlR w w.heap.size v1 v2 p) (hok : OkP p) (hs : Sl encI 1 w w.heap.size s src) (ht : Sl encI 1 w w.heap.size t snk) :
    Calls Tryz.prog 64 #[.agg #[v1, v2], s, t] w (RMostP w p src snk) := by
  have H124 := Lib.hid (fun (w1 : World) (hb : Below w.heap.size w w1) => edges124 w1 v1 v2 s t p src snk (hv.later hb) hok (hs.later hb) (ht.later hb))
  have HOK := Lib.hid hok
  have hn64 := hok.le
  have hna := hok.ale
  obtain ⟨a1, n1, a2, n2, rfl, rfl⟩ := hv.agg
  clear hv hs ht hok
  obtain ⟨Q, hQ⟩ : ∃ Q, RMostP w p src snk = Q := ⟨_, rfl⟩
  rw [hQ]
  have HQ : Hid (∀ k F T w', RefM p src snk F T k → Below w.heap.size w w' → Q (.returned (.int .i64 k)) w') := Lib.hid (fun k F T w' h1 h2 => by rw [← hQ]; exact ⟨k, F, T, rfl, h1, h2⟩)
  clear hQ
  have HB := Lib.hid ((Below.refl w.heap.size w).alloc (Nat.le_refl _) (.cells #[.slice a1 p.ms.length n1, .slice a2 p.arcs.length n2] 25))
  have HX := Lib.hid (Box.new w #[.slice a1 p.ms.length n1, .slice a2 p.arcs.length n2] 25)
  have HEL := Lib.hid (edges_len p src snk)
  have HEE := Lib.hid (edges_lt HOK.out (src := src) (snk := snk))
  have HST : Hid (RFlow (2 * p.ms.length + 2) (capE (edgesL p src snk)) (resE (edgesL p src snk) (List.replicate (edgesL p src snk).length 0)) (valX (2 * p.ms.length) (2 * p.ms.length + 1) 0)) := Lib.hid ((RFlow.start fun i j _ _ => capE_nn i j _).congr (fun i j _ _ => resE_zeros i j _) fun i _ => by unfold valX; simp)
  have HBD := Lib.hid (fun F k => capE_le1 (p := p) (src := src) (snk := snk) (F := F) (k := k) HOK.out)
  have HRM := Lib.hid (fun F T k h1 h2 h3 h4 h5 h6 => (⟨h1, h2, h3, h4, h5, h6⟩ : RefM p src snk F T k))
  unfold EdP at H124
  obtain ⟨E, hE⟩ : ∃ E, edgesL p src snk = E := ⟨_, rfl⟩
  rw [hE] at H124 HEL HEE HST HBD HRM
  obtain ⟨n, hn⟩ : ∃ n, p.ms.length = n := ⟨_, rfl⟩
  obtain ⟨m, hm⟩ : ∃ n, p.arcs.length = n := ⟨_, rfl⟩
  rw [hn, hm] at HEL
  rw [hn] at HEE HST HBD HRM hn64
  rw [hm] at hna
  rw [hn, hm] at H124 HB HX
  rw [hn, hm]
  clear hE hn hm
  obtain ⟨nE, hnE⟩ : ∃ n, E.length = n := ⟨_, rfl⟩
  have HNE := Lib.hid hnE
  rw [hnE] at HST
  have hnE4 : nE ≤ 1000 := by have := HEL.out; omega
  clear hnE
  obtain ⟨N, hN⟩ : ∃ N, 2 * n + 2 = N := ⟨_, rfl⟩
  have k0 : IntKind.i64.wrap (2 * (n : Int)) = 2 * (n : Int) := IntWalk.i64_in _ (by omega)
  have k1 : IntKind.i64.wrap (2 * (n : Int) + 2) = (N : Int) := by rw [IntWalk.i64_in _ (by omega)]; omega
  rw [hN] at HEE HST HBD HRM
  have hN1 : 2 * n + 2 = N := hN
  have hN130 : N ≤ 1000 := by omega
  clear hN
  go_enter Tryz.func64, Tryz.ntmps64
  go_wp2_with (first | (go_at_call 124; refine (H124.out _ HB.out).mono ?_; rintro e w2 ⟨vE, rfl, hoE, hb2⟩; have HB2 := Lib.hid (HB.out.trans (hb2.mono HB.out.size)); have HX2 := Lib.hid (HX.out.later hb2); obtain ⟨aE, cE, hvE⟩ := hoE.shape; rw [HNE.out] at hvE; subst hvE; have HOE := Lib.hid hoE; obtain ⟨x0, x1, xf, xz⟩ := HX2.out.v2; clear hb2 hoE) | (at_make; refine wpList_mk1 encI 0 (.int .i64 0) rfl 26 3 8 Tryz.underlying26 infoI rfl (by decide) w2.heap.size w2 nE (by omega) (Nat.le_refl _) rfl _ _ rfl .i64 .i64 rfl rfl ?_; intro w3 hown3 hgr3; have HO3 := Lib.hid hown3; have HG3 := Lib.hid (grown_none_below hgr3); have HB3 := Lib.hid (HB2.out.trans (HG3.out.mono HB2.out.size)); have HX3 := Lib.hid (HX2.out.later HG3.out); have HOE3 := Lib.hid (HOE.out.later HG3.out); clear hown3 hgr3 x0 x1 xf xz))
  have hgf0 := HX2.out.lt
  clear HX2 HOE
  generalize w2.heap.size = gf at *
  go_loopw [9] (fun i wr => ∃ (k : Int) (F : List Int), i = .int .i64 k ∧ 0 ≤ k ∧ Box wr w.heap.size 25 [.slice a1 n n1, .slice a2 m n2] ∧ Own Ed.enc 3 181 wr 0 (.slice aE nE cE) E ∧ Own encI 1 3 wr 0 (.slice (some ⟨gf, 0, none⟩) nE nE) F ∧ F.length = nE ∧ FlB F ∧ Below w.heap.size w wr ∧ w.heap.size < gf ∧ RFlow N (capE E) (resE E F) (valX (2 * n) (2 * n + 1) k)) (fun i _ => 40000 - (intOf i).toNat)
  case atStart => exact ⟨0, _, rfl, by omega, HX3.out, HOE3.out.lower (Nat.zero_le _), HO3.out.lower (Nat.zero_le _), by simp, fun x hx => by have := List.eq_of_mem_replicate hx; omega, HB3.out, hgf0, HST.out⟩
  case round =>
    clear HX3 HOE3 HO3 HB3 HST HG3
    obtain ⟨k, F, rfl, hk0, hx, hoe, hof, hfn, hfb, hb, hgf, hfw⟩ := hrel
    have hk1 := HBD.out F k hfw
    have HX3 := Lib.hid hx
    have HB3 := Lib.hid hb
    have HFW := Lib.hid hfw
    obtain ⟨x0, x1, xf, xz⟩ := hx.v2
    have H125 := Lib.hid (raise125 wr (.slice aE nE cE) 0 0 gf nE N (2 * n) (2 * n + 1) E F k hoe hof HNE.out hfn hfb hnE4 hN130 (by omega) (by omega) HEE.out hfw)
    have HOE := Lib.hid hoe
    have HOF := Lib.hid hof
    clear hx hb hfw hoe hof hfb
    go_wp2_with fail
    refine (H125.out).mono ?_
    rintro e w4 ⟨b, F', rfl, hof', hfn', hfb', hkp, h1, h2⟩
    (have HOF2 := Lib.hid hof'; have HFB2 := Lib.hid hfb'; have HKP := Lib.hid hkp; have HB4 := Lib.hid (HB3.out.trans (hkp.toBelow HB3.out.size (fun k e => by rw [e]; omega))); have HX4 := Lib.hid (HX3.out.keeps hkp (by omega)); have HOE4 := Lib.hid (HOE.out.keeps hkp fun k h e => by subst e; exact HOE.out.two_types HOF.out (by decide) _ h rfl); have HY := Lib.hid h1; have HN := Lib.hid h2; clear hof' hfb' hkp h1 h2)
    cases b with
    | false =>
      obtain ⟨rfl, T, t1, t2, t3⟩ := HN.out rfl
      have HRR := Lib.hid (HRM.out F' T k (by rw [HNE.out]; exact hfn) HFB2.out HFW.out t1 t2 t3)
      clear t1 t2 t3
      go_wp2_with fail
      exact HQ.out k F' T _ HRR.out HB4.out
    | true =>
      have HY2 := Lib.hid (HY.out rfl)
      go_wp2_with fail
      go_roundw
      case rel => exact ⟨k + 1, F', rfl, by omega, HX4.out, HOE4.out, HOF2.out, hfn', HFB2.out, HB4.out, hgf, HY2.out⟩
      case measure => simp [intOf]; omega
end Go.Proofs.YtahpdkkpnkhnhaaGreatDoor
/- Walks: the ends of the reference. -/
namespace Go.Proofs.YtahpdkkpnkhnhaaGreatDoor
open Go Go.Proofs Go.RowKit Go.Shelf
def endF (b : Bool) : ByteArray → Bool := if b then enB else bgB
set_option maxRecDepth 100000 in
set_option maxHeartbeats 1000000 in
theorem ends123 (w : World) (v1 v2 u : Value) (b : Bool) (p : Pl) (l : List Int) (hv : PlR w w.heap.size v1 v2 p) (hu : Sl encI 1 w w.heap.size u l) :
    Calls Tryz.prog 123 #[.agg #[v1, v2], u, .bool b] w (Ret (.int .i64 (endE p (endF b) l)) w) := by
  have HT := Lib.hid (fun (w1 : World) (hb : Below w.heap.size w w1) => twice126 u l w1 (hu.later hb))
  have HV := Lib.hid hv
  have HU0 := Lib.hid hu
  obtain ⟨⟨a1, n1, rfl, hl1, hA1⟩, ⟨a2, n2, rfl, hl2, hA2⟩⟩ := hv
  have HUK := Lib.hid (fun (w1 : World) (hb : Below w.heap.size w w1) => unknown88 a1 p.ms.length n1 (.slice a2 p.arcs.length n2) u l w1 (HU0.out.later hb))
  obtain ⟨a, c, rfl, hlen, hA⟩ := hu
  have HA1 := Lib.hid hA1
  have HA := Lib.hid hA
  clear hA1 hA2 hA hl2 HV HU0
  obtain ⟨hl, hlc⟩ := hlen
  have HB := Lib.hid ((Below.refl w.heap.size w).alloc (Nat.le_refl _) (.cells #[.slice a1 p.ms.length n1, .slice a2 p.arcs.length n2] 25))
  have HX := Lib.hid (Box.new w #[.slice a1 p.ms.length n1, .slice a2 p.arcs.length n2] 25)
  obtain ⟨R, hR⟩ : ∃ R, endE p (endF b) l = R := ⟨_, rfl⟩
  rw [hR]
  unfold endE at hR
  obtain ⟨dR, hdR⟩ : ∃ d : Int, (if dupB l then (9 : Int) else 0) = d := ⟨_, rfl⟩
  rw [hdR] at hR
  have HDR := Lib.hid hdR
  obtain ⟨du, hdu⟩ : ∃ d, dupB l = d := ⟨_, rfl⟩
  rw [hdu] at HT HDR
  clear hdR hdu
  obtain ⟨n, hn⟩ : ∃ n, p.ms.length = n := ⟨_, rfl⟩
  obtain ⟨m, hm⟩ : ∃ m, p.arcs.length = m := ⟨_, rfl⟩
  obtain ⟨ln, hll⟩ : ∃ m, l.length = m := ⟨_, rfl⟩
  rw [hn] at HB HX HUK hl1 hR ⊢
  rw [hm] at HB HX HUK ⊢
  rw [hll] at hl hlc HUK HT ⊢
  have HN := Lib.hid hn
  have HLN := Lib.hid hll
  clear hn hm hll
  unfold unkE at HUK
  obtain ⟨qu, hqu⟩ : ∃ b, l.any (fun x => !inN n x) = b := ⟨_, rfl⟩
  rw [hqu] at HUK hR
  have HQU := Lib.hid hqu
  clear hqu
  obtain ⟨h11, h12⟩ := hl1
  cases qu with
  | true =>
    have HV := Lib.hid (show R = 10 by rw [← hR]; rfl)
    clear hR
    go_enter Tryz.func123, Tryz.ntmps123
    go_wp2_with fail
    refine (HUK.out _ HB.out).mono ?_
    rintro e w2 ⟨rfl, hb⟩
    have HB2 := Lib.hid (HB.out.trans (hb.mono HB.out.size))
    go_wp2_with fail
    go_ret
    exact ⟨by rw [HV.out]; rfl, HB2.out⟩
  | false =>
    have HIN := Lib.hid (show ∀ y ∈ l, inN n y = true from fun y hy => by
      have := List.any_eq_false.1 HQU.out y hy
      simpa using this)
    have HR0 := Lib.hid (show (if l.any (fun x => !(endF b) (kdA p x)) = true then (20 : Int) else dR) = R from by rw [← hR]; rfl)
    clear hR HQU
    go_enter Tryz.func123, Tryz.ntmps123
    go_wp2_with fail
    refine (HUK.out _ HB.out).mono ?_
    rintro e w2 ⟨rfl, hb⟩
    have HB2 := Lib.hid (HB.out.trans (hb.mono HB.out.size))
    have HX2 := Lib.hid (HX.out.later hb)
    clear hb HB HX
    go_wp2_with fail
    go_loopw [8] (fun i wr => ∃ k : Nat, k ≤ ln ∧ i = .int .i64 k ∧ Below w2.heap.size w2 wr ∧ (if (l.drop k).any (fun x => !(endF b) (kdA p x)) = true then (20 : Int) else dR) = R) (fun i _ => ln - (intOf i).toNat)
    case atStart => exact ⟨0, by omega, rfl, Below.refl _ _, HR0.out⟩
    case round =>
      clear HR0
      obtain ⟨k, hk, rfl, hbe, hrel⟩ := hrel
      have HR := Lib.hid hrel
      have HB3 := Lib.hid (HB2.out.trans (hbe.mono HB2.out.size))
      have HX3 := Lib.hid (HX2.out.later hbe)
      have HBE := Lib.hid hbe
      clear hbe hrel
      by_cases hlt : k < ln
      rotate_left
      · obtain rfl : ln = k := by omega
        have HV := Lib.hid (show R = dR by rw [← HR.out, List.drop_of_length_le (by rw [HLN.out]; omega)]; rfl)
        go_wp2_with fail
        refine (HT.out _ HB3.out).mono ?_
        rintro e w4 ⟨rfl, hb⟩
        have HB4 := Lib.hid (HB3.out.trans (hb.mono HB3.out.size))
        clear hb
        cases du with
        | true =>
          go_wp2_with fail
          go_ret
          exact ⟨by rw [HV.out, ← HDR.out]; rfl, HB4.out⟩
        | false =>
          go_wp2_with fail
          go_ret
          exact ⟨by rw [HV.out, ← HDR.out]; rfl, HB4.out⟩
      have hkl : k < l.length := by rw [HLN.out]; exact hlt
      obtain ⟨bb, off, rfl, hbb, hcells⟩ := HA.out (by omega)
      have c0 := ((hcells k hkl).below HB3.out hbb).c1
      rw [Nat.mul_one] at c0
      have hbz : bb < wr.heap.size := Nat.lt_of_lt_of_le hbb HB3.out.size
      obtain ⟨x, hy, hxn⟩ := inN_nat (HIN.out l[k] (List.getElem_mem hkl))
      have HD := Lib.hid (show (if (!(endF b) (kdA p l[k]) || (l.drop (k + 1)).any (fun x => !(endF b) (kdA p x))) = true then (20 : Int) else dR) = R from by
        have h := HR.out
        rw [List.drop_eq_getElem_cons hkl, List.any_cons] at h
        exact h)
      rw [hy] at c0 HD
      have hxl : x < p.ms.length := by rw [HN.out]; exact hxn
      obtain ⟨b1, off1, rfl, hbb1, hcells1⟩ := HA1.out (by omega)
      obtain ⟨m0, m1⟩ := ((hcells1 x hxl).below HB3.out hbb1).c2
      have hb1z := Nat.lt_of_lt_of_le hbb1 HB3.out.size
      rw [kdA_nat hxl] at HD
      obtain ⟨x0, x1, xf, xz⟩ := HX3.out.v2
      clear hcells hcells1 hy hkl
      generalize p.ms[x] = mx at *
      obtain ⟨sm, tm⟩ := mx
      dsimp only at m0 m1 HD
      have K86 := Lib.hid (fun w1 => isFirst86 sm w1)
      have K87 := Lib.hid (fun w1 => isLast87 sm w1)
      clear hxl
      go_wp2_with fail
      refine wp_region_later (by kernel_rfl) (by kernel_rfl) ?_
      repeat go_big_quiet_step (fail)
      refine wpQuiet_nil ?_
      rintro w5 ⟨⟨_, hb⟩, rfl⟩
      have HB5 := Lib.hid (HB3.out.trans (hb.mono HB3.out.size))
      have HBL := Lib.hid hb
      clear hb x0 x1 xf xz m0 m1 c0 hbz hb1z
      cases b with
      | false =>
        obtain ⟨q, hq⟩ : ∃ q, bgB sm = q := ⟨_, rfl⟩
        rw [hq] at K86
        have HD2 := Lib.hid (show (if (!q || (l.drop (k + 1)).any (fun x => !(endF false) (kdA p x))) = true then (20 : Int) else dR) = R from by rw [← HD.out, ← hq]; rfl)
        clear hq
        go_wp2_with fail
        refine (K86.out _).mono ?_
        rintro e w6 ⟨rfl, rfl⟩
        cases q with
        | true =>
          go_wp2_with fail
          go_roundw
          case rel => exact ⟨k + 1, by omega, by go_num, HBE.out.trans (HBL.out.mono HBE.out.size), HD2.out⟩
          case measure => simp [intOf]; omega
        | false =>
          go_wp2_with fail
          go_ret
          exact ⟨by rw [← HD2.out]; rfl, HB5.out⟩
      | true =>
        obtain ⟨q, hq⟩ : ∃ q, enB sm = q := ⟨_, rfl⟩
        rw [hq] at K87
        have HD2 := Lib.hid (show (if (!q || (l.drop (k + 1)).any (fun x => !(endF true) (kdA p x))) = true then (20 : Int) else dR) = R from by rw [← HD.out, ← hq]; rfl)
        clear hq
        go_wp2_with fail
        refine (K87.out _).mono ?_
        rintro e w6 ⟨rfl, rfl⟩
        cases q with
        | true =>
          go_wp2_with fail
          go_roundw
          case rel => exact ⟨k + 1, by omega, by go_num, HBE.out.trans (HBL.out.mono HBE.out.size), HD2.out⟩
          case measure => simp [intOf]; omega
        | false =>
          go_wp2_with fail
          go_ret
          exact ⟨by rw [← HD2.out]; rfl, HB5.out⟩
end Go.Proofs.YtahpdkkpnkhnhaaGreatDoor
