/- Lemmas on the way to the law TopChanges (part 31): Gk Hk Rt -/
import Derived.Test.YtflchbejjofppaaGreatDoorTopChangesP23
import Derived.Test.YtflchbejjofppaaGreatDoorTopChangesP19
import Derived.Test.YtflchbejjofppaaGreatDoorTopChangesP29
set_option linter.unusedVariables false
set_option linter.unusedSimpArgs false

/- Walks: measure.AddSpans, SubSpans at whole numbers. -/
namespace Go.Proofs.YtflchbejjofppaaGreatDoor.Nu
open Go Go.Proofs Go.RowKit Go.Proofs.YtflchbejjofppaaGreatDoor
def SepR (c : List Value) (t : TypeId) (zs : List Value) (lo : Nat) (j : Nat) (v : Value) (u : World) : Prop :=
  match c[j]? with
  | some x => v = x
  | none => ∃ g, v = .pointer (some ⟨g, 0, none⟩) ∧ Box u g t zs ∧ lo ≤ g
theorem SepR.later {c : List Value} {t : TypeId} {zs : List Value} {lo j : Nat} {v : Value} {u u' : World} (h : SepR c t zs lo j v u) (hb : Below u.heap.size u u') : SepR c t zs lo j v u' := by
  unfold SepR at h ⊢
  split <;> rename_i e <;> rw [e] at h
  · exact h
  · obtain ⟨g, h1, h2, h3⟩ := h
    exact ⟨g, h1, h2.later hb, h3⟩
set_option maxRecDepth 100000 in
set_option maxHeartbeats 4000000 in
theorem addSpans11 (w : World) (hw : TbR w) (a b c d : Int) (h1 : SpOk (a, b)) (h2 : SpOk (c, d)) (hl : Sm (a + c)) (hh : Sm (b + d)) : Calls Tryz.prog 11 #[.agg #[.string (txz a), .string (txz b)], .agg #[.string (txz c), .string (txz d)]] w (Ret (.tuple #[.agg #[.string (txz (a + c)), .string (txz (b + d))], .int .i64 0]) w) := by
  have e18 : (10 : Nat) ^ 18 = 1000000000000000000 := by decide
  have ha := h1.lo
  have hb := h1.hi
  have hc := h2.lo
  have hd := h2.hi
  dsimp only at ha hb hc hd
  have HCA := Lib.hid (fun (w1 : World) (v : Value) (hb1 : Below w.heap.size w w1) (hv : Sl encP 2 w1 w1.heap.size v [(a, b), (c, d)]) => checkAll39 w1 (hw.later hb1) v [(a, b), (c, d)] hv (by intro p hp; simp at hp; rcases hp with rfl | rfl <;> assumption))
  have HOA := Lib.hid (fun (w1 : World) (hb1 : Below w.heap.size w w1) => of41 w1 (hw.later hb1) a b ha hb)
  have HOB := Lib.hid (fun (w1 : World) (hb1 : Below w.heap.size w w1) => of41 w1 (hw.later hb1) c d hc hd)
  have HLO := Lib.hid (fun (w1 : World) => sadd43 w1 a c hl)
  have HHI := Lib.hid (fun (w1 : World) => sadd43 w1 b d hh)
  have HG := Lib.hid (fun (w1 : World) (hb1 : Below w.heap.size w w1) => giveSpan42 w1 (hw.later hb1) (a + c) (b + d) hl hh)
  have HLT := Lib.hid (fun (w1 : World) => Sl.lit (f := encP) (sz := 2) encP_len [(a, b), (c, d)] w1 #[.string (txz a), .string (txz b), .string (txz c), .string (txz d)] 39 2 rfl rfl (by simp))
  generalize txz a = XA at *
  generalize txz b = XB at *
  generalize txz c = XC at *
  generalize txz d = XD at *
  generalize txz (a + c) = XL at *
  generalize txz (b + d) = XH at *
  generalize a + c = lo at *
  generalize b + d = hi at *
  clear ha hb hc hd e18 h1 h2 hl hh
  have HB_0 := Lib.hid ((Below.refl w.heap.size w).alloc (Nat.le_refl _) (.cells #[.string XA, .string XB] 39))
  have HB_1 := Lib.hid (HB_0.out.alloc HB_0.out.size (.cells #[.string XC, .string XD] 39))
  have HB := Lib.hid (HB_1.out.alloc HB_1.out.size (.cells #[.string ⟨#[]⟩, .string ⟨#[]⟩] 39))
  have HX := Lib.hid (((Box.new w #[.string XA, .string XB] 39).alloc (.cells #[.string XC, .string XD] 39)).alloc (.cells #[.string ⟨#[]⟩, .string ⟨#[]⟩] 39))
  have HY := Lib.hid ((Box.newAt (w.alloc (.cells #[.string XA, .string XB] 39)) #[.string XC, .string XD] 39 (n := w.heap.size + 1) (by simp)).alloc (.cells #[.string ⟨#[]⟩, .string ⟨#[]⟩] 39))
  have HZ := Lib.hid (Box.newAt ((w.alloc (.cells #[.string XA, .string XB] 39)).alloc (.cells #[.string XC, .string XD] 39)) #[.string ⟨#[]⟩, .string ⟨#[]⟩] 39 (n := w.heap.size + 1 + 1) (by simp))
  obtain ⟨x0, x1, xf, xz⟩ := HX.out.v2
  obtain ⟨y0, y1, yf, yz⟩ := HY.out.v2
  obtain ⟨z0, z1, zf, zz⟩ := HZ.out.v2
  clear HB_0 HB_1
  go_enter Tryz.func11, Tryz.ntmps11
  go_wp2_with fail
  have HB1 := Lib.hid (HB.out.alloc HB.out.size (.cells #[.string XA, .string XB, .string XC, .string XD] 39))
  have hl1 := HLT.out (((w.alloc (.cells #[.string XA, .string XB] 39)).alloc (.cells #[.string XC, .string XD] 39)).alloc (.cells #[.string ⟨#[]⟩, .string ⟨#[]⟩] 39))
  rw [show (((w.alloc (.cells #[.string XA, .string XB] 39)).alloc (.cells #[.string XC, .string XD] 39)).alloc (.cells #[.string ⟨#[]⟩, .string ⟨#[]⟩] 39)).heap.size = w.heap.size + 1 + 1 + 1 by simp] at hl1
  have HL1 := Lib.hid hl1
  have HX1 := Lib.hid (HX.out.alloc (.cells #[.string XA, .string XB, .string XC, .string XD] 39))
  have HY1 := Lib.hid (HY.out.alloc (.cells #[.string XA, .string XB, .string XC, .string XD] 39))
  have HZ1 := Lib.hid (HZ.out.alloc (.cells #[.string XA, .string XB, .string XC, .string XD] 39))
  clear hl1 HLT
  refine (HCA.out _ _ HB1.out HL1.out).mono ?_
  rintro e4 w4 ⟨rfl, hb⟩
  clear HX HY HZ HB x0 x1 xf xz y0 y1 yf yz z0 z1 zf zz
  have HX := Lib.hid (HX1.out.later hb)
  have HY := Lib.hid (HY1.out.later hb)
  have HZ := Lib.hid (HZ1.out.later hb)
  have HB := Lib.hid (HB1.out.trans (hb.mono HB1.out.size))
  clear hb HX1 HY1 HZ1 HB1 HL1
  obtain ⟨x0, x1, xf, xz⟩ := HX.out.v2
  obtain ⟨y0, y1, yf, yz⟩ := HY.out.v2
  obtain ⟨z0, z1, zf, zz⟩ := HZ.out.v2
  go_wp2_with fail
  clear x0 x1 xf xz y0 y1 yf yz
  refine wp_region_sep 6 (fun j => decide (4 ≤ j)) (SepR [.agg #[.string XA, .string XB], .agg #[.int .i64 a, .slice none 0 0, .int .i64 1, .slice none 0 0, .int .i64 b, .slice none 0 0, .int .i64 1, .slice none 0 0], .agg #[.string XC, .string XD], .agg #[.int .i64 c, .slice none 0 0, .int .i64 1, .slice none 0 0, .int .i64 d, .slice none 0 0, .int .i64 1, .slice none 0 0]] 85 #[.int .i64 0, .slice none 0 0, .int .i64 0, .slice none 0 0, .int .i64 0, .slice none 0 0, .int .i64 0, .slice none 0 0].toList w4.heap.size) (by kernel_rfl) (by kernel_rfl) (fun j v u u' h hb => h.later hb) ?_ ?_
  · refine ⟨?_, ?_, ?_, ?_, ?_, ?_, trivial⟩
    all_goals
      intro vs u hu hR
      simp only [putsN, List.take_succ_cons, List.take_zero, Act.put, List.setIfInBounds_toArray, List.set_cons_succ, List.set_cons_zero]
    · obtain ⟨x0, x1, xf, xz⟩ := (HX.out.later hu).v2
      clear hR hu
      go_wp2_with fail
      exact ⟨rfl, rfl, _, _, rfl, rfl, Below.refl _ _, rfl, fun h => absurd h (by decide)⟩
    · have e0 : vs 0 = .agg #[.string XA, .string XB] := hR 0 (by decide) (by kernel_rfl)
      have HS := Lib.hid (HOA.out u (HB.out.trans (hu.mono HB.out.size)))
      clear hR hu
      go_wp2_with fail
      refine HS.out.mono ?_
      rintro e11 w11 ⟨rfl, hb⟩
      go_wp2_with fail
      exact ⟨rfl, rfl, _, _, rfl, rfl, hb, rfl, fun h => absurd h (by decide)⟩
    · obtain ⟨y0, y1, yf, yz⟩ := (HY.out.later hu).v2
      clear hR hu
      go_wp2_with fail
      exact ⟨rfl, rfl, _, _, rfl, rfl, Below.refl _ _, rfl, fun h => absurd h (by decide)⟩
    · have e0 : vs 2 = .agg #[.string XC, .string XD] := hR 2 (by decide) (by kernel_rfl)
      have HS := Lib.hid (HOB.out u (HB.out.trans (hu.mono HB.out.size)))
      clear hR hu
      go_wp2_with fail
      refine HS.out.mono ?_
      rintro e11 w11 ⟨rfl, hb⟩
      go_wp2_with fail
      exact ⟨rfl, rfl, _, _, rfl, rfl, hb, rfl, fun h => absurd h (by decide)⟩
    · have hsz := hu.size
      clear hR hu
      go_wp2_with fail
      exact ⟨rfl, rfl, _, _, rfl, rfl, (Below.refl _ _).alloc (Nat.le_refl _) _, ⟨_, rfl, Box.new u #[.int .i64 0, .slice none 0 0, .int .i64 0, .slice none 0 0, .int .i64 0, .slice none 0 0, .int .i64 0, .slice none 0 0] 85, hsz⟩, fun _ => ⟨Nat.le_refl _, by simp [blk]⟩⟩
    · have hsz := hu.size
      clear hR hu
      go_wp2_with fail
      exact ⟨rfl, rfl, _, _, rfl, rfl, (Below.refl _ _).alloc (Nat.le_refl _) _, ⟨_, rfl, Box.new u #[.int .i64 0, .slice none 0 0, .int .i64 0, .slice none 0 0, .int .i64 0, .slice none 0 0, .int .i64 0, .slice none 0 0] 85, hsz⟩, fun _ => ⟨Nat.le_refl _, by simp [blk]⟩⟩
  · intro vs u hu hR hsep
    have e1 : vs 1 = .agg #[.int .i64 a, .slice none 0 0, .int .i64 1, .slice none 0 0, .int .i64 b, .slice none 0 0, .int .i64 1, .slice none 0 0] := hR 1 (by decide)
    have e3 : vs 3 = .agg #[.int .i64 c, .slice none 0 0, .int .i64 1, .slice none 0 0, .int .i64 d, .slice none 0 0, .int .i64 1, .slice none 0 0] := hR 3 (by decide)
    obtain ⟨g, e4, hbg, hlg⟩ := hR 4 (by decide)
    obtain ⟨k, e5, hbk, hlk⟩ := hR 5 (by decide)
    have hgk : g ≠ k := by have := hsep 4 5 (by decide) (by decide) (by decide) (by decide) (by decide); rw [e4, e5] at this; exact this
    have hwg : w.heap.size ≤ g := by have := HB.out.size; omega
    have hwk : w.heap.size ≤ k := by have := HB.out.size; omega
    have hzg : w.heap.size + 1 + 1 ≠ g ∧ w.heap.size + 1 + 1 ≠ k := by have := HZ.out.lt; omega
    obtain ⟨hzg, hzk⟩ := hzg
    simp only [putsN, List.drop_succ_cons, List.drop_zero, List.take_succ_cons, List.take_zero, Act.put, List.setIfInBounds_toArray, List.set_cons_succ, List.set_cons_zero, e1, e3, e4, e5]
    have HP := Lib.hid hbg
    have HQ := Lib.hid hbk
    replace HZ := Lib.hid (HZ.out.later hu)
    replace HB := Lib.hid (HB.out.trans (hu.mono HB.out.size))
    clear hbg hbk hR hu hsep e1 e3 e4 e5 hlg hlk HX HY HOA HOB HCA z0 z1 zf zz
    obtain ⟨p0, p1, p2, p3, p4, p5, p6, p7, pf, pz⟩ := HP.out.w8
    obtain ⟨q0, q1, q2, q3, q4, q5, q6, q7, qf, qz⟩ := HQ.out.w8
    obtain ⟨z0, z1, zf, zz⟩ := HZ.out.v2
    go_wp2_with fail
    have hF := ((((((((HP.out.set 0 (.int .i64 a)).set 1 (.slice none 0 0)).set 2 (.int .i64 1)).set 3 (.slice none 0 0)).set 4 (.int .i64 b)).set 5 (.slice none 0 0)).set 6 (.int .i64 1)).set 7 (.slice none 0 0))
    replace HB := Lib.hid ((((((((HB.out.setCell (p := ⟨g, 0, none⟩) (by first | exact Nat.le_refl _ | (dsimp only; omega)) (.int .i64 a)).setCell (p := ⟨g, 1, none⟩) (by first | exact Nat.le_refl _ | (dsimp only; omega)) (.slice none 0 0)).setCell (p := ⟨g, 2, none⟩) (by first | exact Nat.le_refl _ | (dsimp only; omega)) (.int .i64 1)).setCell (p := ⟨g, 3, none⟩) (by first | exact Nat.le_refl _ | (dsimp only; omega)) (.slice none 0 0)).setCell (p := ⟨g, 4, none⟩) (by first | exact Nat.le_refl _ | (dsimp only; omega)) (.int .i64 b)).setCell (p := ⟨g, 5, none⟩) (by first | exact Nat.le_refl _ | (dsimp only; omega)) (.slice none 0 0)).setCell (p := ⟨g, 6, none⟩) (by first | exact Nat.le_refl _ | (dsimp only; omega)) (.int .i64 1)).setCell (p := ⟨g, 7, none⟩) (by first | exact Nat.le_refl _ | (dsimp only; omega)) (.slice none 0 0))
    simp only [List.set_cons_succ, List.set_cons_zero] at hF
    replace HQ := Lib.hid ((((((((HQ.out.other (a := ⟨g, 0, none⟩) (.int .i64 a) (by dsimp only; omega)).other (a := ⟨g, 1, none⟩) (.slice none 0 0) (by dsimp only; omega)).other (a := ⟨g, 2, none⟩) (.int .i64 1) (by dsimp only; omega)).other (a := ⟨g, 3, none⟩) (.slice none 0 0) (by dsimp only; omega)).other (a := ⟨g, 4, none⟩) (.int .i64 b) (by dsimp only; omega)).other (a := ⟨g, 5, none⟩) (.slice none 0 0) (by dsimp only; omega)).other (a := ⟨g, 6, none⟩) (.int .i64 1) (by dsimp only; omega)).other (a := ⟨g, 7, none⟩) (.slice none 0 0) (by dsimp only; omega))
    replace HZ := Lib.hid ((((((((HZ.out.other (a := ⟨g, 0, none⟩) (.int .i64 a) (by dsimp only; omega)).other (a := ⟨g, 1, none⟩) (.slice none 0 0) (by dsimp only; omega)).other (a := ⟨g, 2, none⟩) (.int .i64 1) (by dsimp only; omega)).other (a := ⟨g, 3, none⟩) (.slice none 0 0) (by dsimp only; omega)).other (a := ⟨g, 4, none⟩) (.int .i64 b) (by dsimp only; omega)).other (a := ⟨g, 5, none⟩) (.slice none 0 0) (by dsimp only; omega)).other (a := ⟨g, 6, none⟩) (.int .i64 1) (by dsimp only; omega)).other (a := ⟨g, 7, none⟩) (.slice none 0 0) (by dsimp only; omega))
    clear HP p0 p1 p2 p3 p4 p5 p6 p7 pf pz
    clear q0 q1 q2 q3 q4 q5 q6 q7 qf qz
    clear z0 z1 zf zz
    generalize ((((((((u.setCell ⟨g, 0, none⟩ (.int .i64 a)).setCell ⟨g, 1, none⟩ (.slice none 0 0)).setCell ⟨g, 2, none⟩ (.int .i64 1)).setCell ⟨g, 3, none⟩ (.slice none 0 0)).setCell ⟨g, 4, none⟩ (.int .i64 b)).setCell ⟨g, 5, none⟩ (.slice none 0 0)).setCell ⟨g, 6, none⟩ (.int .i64 1)).setCell ⟨g, 7, none⟩ (.slice none 0 0)) = wF at *
    have HP := Lib.hid hF
    clear hF
    obtain ⟨p0, p1, p2, p3, p4, p5, p6, p7, pf, pz⟩ := HP.out.w8
    obtain ⟨q0, q1, q2, q3, q4, q5, q6, q7, qf, qz⟩ := HQ.out.w8
    obtain ⟨z0, z1, zf, zz⟩ := HZ.out.v2
    have hF := ((((((((HQ.out.set 0 (.int .i64 c)).set 1 (.slice none 0 0)).set 2 (.int .i64 1)).set 3 (.slice none 0 0)).set 4 (.int .i64 d)).set 5 (.slice none 0 0)).set 6 (.int .i64 1)).set 7 (.slice none 0 0))
    replace HB := Lib.hid ((((((((HB.out.setCell (p := ⟨k, 0, none⟩) (by first | exact Nat.le_refl _ | (dsimp only; omega)) (.int .i64 c)).setCell (p := ⟨k, 1, none⟩) (by first | exact Nat.le_refl _ | (dsimp only; omega)) (.slice none 0 0)).setCell (p := ⟨k, 2, none⟩) (by first | exact Nat.le_refl _ | (dsimp only; omega)) (.int .i64 1)).setCell (p := ⟨k, 3, none⟩) (by first | exact Nat.le_refl _ | (dsimp only; omega)) (.slice none 0 0)).setCell (p := ⟨k, 4, none⟩) (by first | exact Nat.le_refl _ | (dsimp only; omega)) (.int .i64 d)).setCell (p := ⟨k, 5, none⟩) (by first | exact Nat.le_refl _ | (dsimp only; omega)) (.slice none 0 0)).setCell (p := ⟨k, 6, none⟩) (by first | exact Nat.le_refl _ | (dsimp only; omega)) (.int .i64 1)).setCell (p := ⟨k, 7, none⟩) (by first | exact Nat.le_refl _ | (dsimp only; omega)) (.slice none 0 0))
    simp only [List.set_cons_succ, List.set_cons_zero] at hF
    replace HP := Lib.hid ((((((((HP.out.other (a := ⟨k, 0, none⟩) (.int .i64 c) (by dsimp only; omega)).other (a := ⟨k, 1, none⟩) (.slice none 0 0) (by dsimp only; omega)).other (a := ⟨k, 2, none⟩) (.int .i64 1) (by dsimp only; omega)).other (a := ⟨k, 3, none⟩) (.slice none 0 0) (by dsimp only; omega)).other (a := ⟨k, 4, none⟩) (.int .i64 d) (by dsimp only; omega)).other (a := ⟨k, 5, none⟩) (.slice none 0 0) (by dsimp only; omega)).other (a := ⟨k, 6, none⟩) (.int .i64 1) (by dsimp only; omega)).other (a := ⟨k, 7, none⟩) (.slice none 0 0) (by dsimp only; omega))
    replace HZ := Lib.hid ((((((((HZ.out.other (a := ⟨k, 0, none⟩) (.int .i64 c) (by dsimp only; omega)).other (a := ⟨k, 1, none⟩) (.slice none 0 0) (by dsimp only; omega)).other (a := ⟨k, 2, none⟩) (.int .i64 1) (by dsimp only; omega)).other (a := ⟨k, 3, none⟩) (.slice none 0 0) (by dsimp only; omega)).other (a := ⟨k, 4, none⟩) (.int .i64 d) (by dsimp only; omega)).other (a := ⟨k, 5, none⟩) (.slice none 0 0) (by dsimp only; omega)).other (a := ⟨k, 6, none⟩) (.int .i64 1) (by dsimp only; omega)).other (a := ⟨k, 7, none⟩) (.slice none 0 0) (by dsimp only; omega))
    clear HQ q0 q1 q2 q3 q4 q5 q6 q7 qf qz
    clear p0 p1 p2 p3 p4 p5 p6 p7 pf pz
    clear z0 z1 zf zz
    generalize ((((((((wF.setCell ⟨k, 0, none⟩ (.int .i64 c)).setCell ⟨k, 1, none⟩ (.slice none 0 0)).setCell ⟨k, 2, none⟩ (.int .i64 1)).setCell ⟨k, 3, none⟩ (.slice none 0 0)).setCell ⟨k, 4, none⟩ (.int .i64 d)).setCell ⟨k, 5, none⟩ (.slice none 0 0)).setCell ⟨k, 6, none⟩ (.int .i64 1)).setCell ⟨k, 7, none⟩ (.slice none 0 0)) = wF at *
    have HQ := Lib.hid hF
    clear hF
    obtain ⟨q0, q1, q2, q3, q4, q5, q6, q7, qf, qz⟩ := HQ.out.w8
    obtain ⟨p0, p1, p2, p3, p4, p5, p6, p7, pf, pz⟩ := HP.out.w8
    obtain ⟨z0, z1, zf, zz⟩ := HZ.out.v2
    have HGL := Lib.hid (fun X : Later _ => HG.out X.w (HB.out.trans (X.h.mono HB.out.size)))
    refine wp_region_head_later 13 (by kernel_rfl) (by kernel_rfl) ?_
    simp only [List.take_succ_cons, List.take_zero, List.drop_succ_cons, List.drop_zero]
    repeat go_big_quiet_step ((first | (go_at_call 43; first | with_reducible exact Calls.later (HLO.out _) | with_reducible exact Calls.later (HHI.out _)) | (go_at_call 42; exact Calls.later (HGL.out _))))
    refine wpQuiet_nil ?_
    rintro w7 ⟨⟨_, hb7⟩, rfl⟩
    replace HZ := Lib.hid (HZ.out.later hb7)
    replace HB := Lib.hid (HB.out.trans (hb7.mono HB.out.size))
    clear hb7 z0 z1 zf zz p0 p1 p2 p3 p4 p5 p6 p7 pf pz q0 q1 q2 q3 q4 q5 q6 q7 qf qz HP HQ
    obtain ⟨z0, z1, zf, zz⟩ := HZ.out.v2
    go_wp2_with fail
    refine bodyPost_ret (v := .tuple #[.agg #[.string XL, .string XH], .int .i64 0]) (by simp [results, Tryz.results11, go_sem, *]) rfl ?_
    refine Ret.mk rfl ?_
    repeat (first | with_reducible exact HB.out | with_reducible exact Below.refl _ _ | refine Below.setCell ?_ (by first | (dsimp only; omega) | (simp; done) | (simp; omega)) _ | refine Below.alloc ?_ (by first | omega | (simp; done) | (simp; omega)) _ | refine Below.drew ?_)
set_option maxRecDepth 100000 in
set_option maxHeartbeats 4000000 in
theorem subSpans13 (w : World) (hw : TbR w) (a b c d : Int) (h1 : SpOk (a, b)) (h2 : SpOk (c, d)) (hl : Sm (a - d)) (hh : Sm (b - c)) : Calls Tryz.prog 13 #[.agg #[.string (txz a), .string (txz b)], .agg #[.string (txz c), .string (txz d)]] w (Ret (.tuple #[.agg #[.string (txz (a - d)), .string (txz (b - c))], .int .i64 0]) w) := by
  have e18 : (10 : Nat) ^ 18 = 1000000000000000000 := by decide
  have ha := h1.lo
  have hb := h1.hi
  have hc := h2.lo
  have hd := h2.hi
  dsimp only at ha hb hc hd
  have HCA := Lib.hid (fun (w1 : World) (v : Value) (hb1 : Below w.heap.size w w1) (hv : Sl encP 2 w1 w1.heap.size v [(a, b), (c, d)]) => checkAll39 w1 (hw.later hb1) v [(a, b), (c, d)] hv (by intro p hp; simp at hp; rcases hp with rfl | rfl <;> assumption))
  have HOA := Lib.hid (fun (w1 : World) (hb1 : Below w.heap.size w w1) => of41 w1 (hw.later hb1) a b ha hb)
  have HOB := Lib.hid (fun (w1 : World) (hb1 : Below w.heap.size w w1) => of41 w1 (hw.later hb1) c d hc hd)
  have HLO := Lib.hid (fun (w1 : World) => ssub44 w1 a d ⟨by omega, by omega⟩ hl)
  have HHI := Lib.hid (fun (w1 : World) => ssub44 w1 b c ⟨by omega, by omega⟩ hh)
  have HG := Lib.hid (fun (w1 : World) (hb1 : Below w.heap.size w w1) => giveSpan42 w1 (hw.later hb1) (a - d) (b - c) hl hh)
  have HLT := Lib.hid (fun (w1 : World) => Sl.lit (f := encP) (sz := 2) encP_len [(a, b), (c, d)] w1 #[.string (txz a), .string (txz b), .string (txz c), .string (txz d)] 39 2 rfl rfl (by simp))
  generalize txz a = XA at *
  generalize txz b = XB at *
  generalize txz c = XC at *
  generalize txz d = XD at *
  generalize txz (a - d) = XL at *
  generalize txz (b - c) = XH at *
  generalize a - d = lo at *
  generalize b - c = hi at *
  clear ha hb hc hd e18 h1 h2 hl hh
  have HB_0 := Lib.hid ((Below.refl w.heap.size w).alloc (Nat.le_refl _) (.cells #[.string XA, .string XB] 39))
  have HB_1 := Lib.hid (HB_0.out.alloc HB_0.out.size (.cells #[.string XC, .string XD] 39))
  have HB := Lib.hid (HB_1.out.alloc HB_1.out.size (.cells #[.string ⟨#[]⟩, .string ⟨#[]⟩] 39))
  have HX := Lib.hid (((Box.new w #[.string XA, .string XB] 39).alloc (.cells #[.string XC, .string XD] 39)).alloc (.cells #[.string ⟨#[]⟩, .string ⟨#[]⟩] 39))
  have HY := Lib.hid ((Box.newAt (w.alloc (.cells #[.string XA, .string XB] 39)) #[.string XC, .string XD] 39 (n := w.heap.size + 1) (by simp)).alloc (.cells #[.string ⟨#[]⟩, .string ⟨#[]⟩] 39))
  have HZ := Lib.hid (Box.newAt ((w.alloc (.cells #[.string XA, .string XB] 39)).alloc (.cells #[.string XC, .string XD] 39)) #[.string ⟨#[]⟩, .string ⟨#[]⟩] 39 (n := w.heap.size + 1 + 1) (by simp))
  obtain ⟨x0, x1, xf, xz⟩ := HX.out.v2
  obtain ⟨y0, y1, yf, yz⟩ := HY.out.v2
  obtain ⟨z0, z1, zf, zz⟩ := HZ.out.v2
  clear HB_0 HB_1
  go_enter Tryz.func13, Tryz.ntmps13
  go_wp2_with fail
  have HB1 := Lib.hid (HB.out.alloc HB.out.size (.cells #[.string XA, .string XB, .string XC, .string XD] 39))
  have hl1 := HLT.out (((w.alloc (.cells #[.string XA, .string XB] 39)).alloc (.cells #[.string XC, .string XD] 39)).alloc (.cells #[.string ⟨#[]⟩, .string ⟨#[]⟩] 39))
  rw [show (((w.alloc (.cells #[.string XA, .string XB] 39)).alloc (.cells #[.string XC, .string XD] 39)).alloc (.cells #[.string ⟨#[]⟩, .string ⟨#[]⟩] 39)).heap.size = w.heap.size + 1 + 1 + 1 by simp] at hl1
  have HL1 := Lib.hid hl1
  have HX1 := Lib.hid (HX.out.alloc (.cells #[.string XA, .string XB, .string XC, .string XD] 39))
  have HY1 := Lib.hid (HY.out.alloc (.cells #[.string XA, .string XB, .string XC, .string XD] 39))
  have HZ1 := Lib.hid (HZ.out.alloc (.cells #[.string XA, .string XB, .string XC, .string XD] 39))
  clear hl1 HLT
  refine (HCA.out _ _ HB1.out HL1.out).mono ?_
  rintro e4 w4 ⟨rfl, hb⟩
  clear HX HY HZ HB x0 x1 xf xz y0 y1 yf yz z0 z1 zf zz
  have HX := Lib.hid (HX1.out.later hb)
  have HY := Lib.hid (HY1.out.later hb)
  have HZ := Lib.hid (HZ1.out.later hb)
  have HB := Lib.hid (HB1.out.trans (hb.mono HB1.out.size))
  clear hb HX1 HY1 HZ1 HB1 HL1
  obtain ⟨x0, x1, xf, xz⟩ := HX.out.v2
  obtain ⟨y0, y1, yf, yz⟩ := HY.out.v2
  obtain ⟨z0, z1, zf, zz⟩ := HZ.out.v2
  go_wp2_with fail
  clear x0 x1 xf xz y0 y1 yf yz
  refine wp_region_sep 6 (fun j => decide (4 ≤ j)) (SepR [.agg #[.string XA, .string XB], .agg #[.int .i64 a, .slice none 0 0, .int .i64 1, .slice none 0 0, .int .i64 b, .slice none 0 0, .int .i64 1, .slice none 0 0], .agg #[.string XC, .string XD], .agg #[.int .i64 c, .slice none 0 0, .int .i64 1, .slice none 0 0, .int .i64 d, .slice none 0 0, .int .i64 1, .slice none 0 0]] 85 #[.int .i64 0, .slice none 0 0, .int .i64 0, .slice none 0 0, .int .i64 0, .slice none 0 0, .int .i64 0, .slice none 0 0].toList w4.heap.size) (by kernel_rfl) (by kernel_rfl) (fun j v u u' h hb => h.later hb) ?_ ?_
  · refine ⟨?_, ?_, ?_, ?_, ?_, ?_, trivial⟩
    all_goals
      intro vs u hu hR
      simp only [putsN, List.take_succ_cons, List.take_zero, Act.put, List.setIfInBounds_toArray, List.set_cons_succ, List.set_cons_zero]
    · obtain ⟨x0, x1, xf, xz⟩ := (HX.out.later hu).v2
      clear hR hu
      go_wp2_with fail
      exact ⟨rfl, rfl, _, _, rfl, rfl, Below.refl _ _, rfl, fun h => absurd h (by decide)⟩
    · have e0 : vs 0 = .agg #[.string XA, .string XB] := hR 0 (by decide) (by kernel_rfl)
      have HS := Lib.hid (HOA.out u (HB.out.trans (hu.mono HB.out.size)))
      clear hR hu
      go_wp2_with fail
      refine HS.out.mono ?_
      rintro e11 w11 ⟨rfl, hb⟩
      go_wp2_with fail
      exact ⟨rfl, rfl, _, _, rfl, rfl, hb, rfl, fun h => absurd h (by decide)⟩
    · obtain ⟨y0, y1, yf, yz⟩ := (HY.out.later hu).v2
      clear hR hu
      go_wp2_with fail
      exact ⟨rfl, rfl, _, _, rfl, rfl, Below.refl _ _, rfl, fun h => absurd h (by decide)⟩
    · have e0 : vs 2 = .agg #[.string XC, .string XD] := hR 2 (by decide) (by kernel_rfl)
      have HS := Lib.hid (HOB.out u (HB.out.trans (hu.mono HB.out.size)))
      clear hR hu
      go_wp2_with fail
      refine HS.out.mono ?_
      rintro e11 w11 ⟨rfl, hb⟩
      go_wp2_with fail
      exact ⟨rfl, rfl, _, _, rfl, rfl, hb, rfl, fun h => absurd h (by decide)⟩
    · have hsz := hu.size
      clear hR hu
      go_wp2_with fail
      exact ⟨rfl, rfl, _, _, rfl, rfl, (Below.refl _ _).alloc (Nat.le_refl _) _, ⟨_, rfl, Box.new u #[.int .i64 0, .slice none 0 0, .int .i64 0, .slice none 0 0, .int .i64 0, .slice none 0 0, .int .i64 0, .slice none 0 0] 85, hsz⟩, fun _ => ⟨Nat.le_refl _, by simp [blk]⟩⟩
    · have hsz := hu.size
      clear hR hu
      go_wp2_with fail
      exact ⟨rfl, rfl, _, _, rfl, rfl, (Below.refl _ _).alloc (Nat.le_refl _) _, ⟨_, rfl, Box.new u #[.int .i64 0, .slice none 0 0, .int .i64 0, .slice none 0 0, .int .i64 0, .slice none 0 0, .int .i64 0, .slice none 0 0] 85, hsz⟩, fun _ => ⟨Nat.le_refl _, by simp [blk]⟩⟩
  · intro vs u hu hR hsep
    have e1 : vs 1 = .agg #[.int .i64 a, .slice none 0 0, .int .i64 1, .slice none 0 0, .int .i64 b, .slice none 0 0, .int .i64 1, .slice none 0 0] := hR 1 (by decide)
    have e3 : vs 3 = .agg #[.int .i64 c, .slice none 0 0, .int .i64 1, .slice none 0 0, .int .i64 d, .slice none 0 0, .int .i64 1, .slice none 0 0] := hR 3 (by decide)
    obtain ⟨g, e4, hbg, hlg⟩ := hR 4 (by decide)
    obtain ⟨k, e5, hbk, hlk⟩ := hR 5 (by decide)
    have hgk : g ≠ k := by have := hsep 4 5 (by decide) (by decide) (by decide) (by decide) (by decide); rw [e4, e5] at this; exact this
    have hwg : w.heap.size ≤ g := by have := HB.out.size; omega
    have hwk : w.heap.size ≤ k := by have := HB.out.size; omega
    have hzg : w.heap.size + 1 + 1 ≠ g ∧ w.heap.size + 1 + 1 ≠ k := by have := HZ.out.lt; omega
    obtain ⟨hzg, hzk⟩ := hzg
    simp only [putsN, List.drop_succ_cons, List.drop_zero, List.take_succ_cons, List.take_zero, Act.put, List.setIfInBounds_toArray, List.set_cons_succ, List.set_cons_zero, e1, e3, e4, e5]
    have HP := Lib.hid hbg
    have HQ := Lib.hid hbk
    replace HZ := Lib.hid (HZ.out.later hu)
    replace HB := Lib.hid (HB.out.trans (hu.mono HB.out.size))
    clear hbg hbk hR hu hsep e1 e3 e4 e5 hlg hlk HX HY HOA HOB HCA z0 z1 zf zz
    obtain ⟨p0, p1, p2, p3, p4, p5, p6, p7, pf, pz⟩ := HP.out.w8
    obtain ⟨q0, q1, q2, q3, q4, q5, q6, q7, qf, qz⟩ := HQ.out.w8
    obtain ⟨z0, z1, zf, zz⟩ := HZ.out.v2
    go_wp2_with fail
    have hF := ((((((((HP.out.set 0 (.int .i64 a)).set 1 (.slice none 0 0)).set 2 (.int .i64 1)).set 3 (.slice none 0 0)).set 4 (.int .i64 b)).set 5 (.slice none 0 0)).set 6 (.int .i64 1)).set 7 (.slice none 0 0))
    replace HB := Lib.hid ((((((((HB.out.setCell (p := ⟨g, 0, none⟩) (by first | exact Nat.le_refl _ | (dsimp only; omega)) (.int .i64 a)).setCell (p := ⟨g, 1, none⟩) (by first | exact Nat.le_refl _ | (dsimp only; omega)) (.slice none 0 0)).setCell (p := ⟨g, 2, none⟩) (by first | exact Nat.le_refl _ | (dsimp only; omega)) (.int .i64 1)).setCell (p := ⟨g, 3, none⟩) (by first | exact Nat.le_refl _ | (dsimp only; omega)) (.slice none 0 0)).setCell (p := ⟨g, 4, none⟩) (by first | exact Nat.le_refl _ | (dsimp only; omega)) (.int .i64 b)).setCell (p := ⟨g, 5, none⟩) (by first | exact Nat.le_refl _ | (dsimp only; omega)) (.slice none 0 0)).setCell (p := ⟨g, 6, none⟩) (by first | exact Nat.le_refl _ | (dsimp only; omega)) (.int .i64 1)).setCell (p := ⟨g, 7, none⟩) (by first | exact Nat.le_refl _ | (dsimp only; omega)) (.slice none 0 0))
    simp only [List.set_cons_succ, List.set_cons_zero] at hF
    replace HQ := Lib.hid ((((((((HQ.out.other (a := ⟨g, 0, none⟩) (.int .i64 a) (by dsimp only; omega)).other (a := ⟨g, 1, none⟩) (.slice none 0 0) (by dsimp only; omega)).other (a := ⟨g, 2, none⟩) (.int .i64 1) (by dsimp only; omega)).other (a := ⟨g, 3, none⟩) (.slice none 0 0) (by dsimp only; omega)).other (a := ⟨g, 4, none⟩) (.int .i64 b) (by dsimp only; omega)).other (a := ⟨g, 5, none⟩) (.slice none 0 0) (by dsimp only; omega)).other (a := ⟨g, 6, none⟩) (.int .i64 1) (by dsimp only; omega)).other (a := ⟨g, 7, none⟩) (.slice none 0 0) (by dsimp only; omega))
    replace HZ := Lib.hid ((((((((HZ.out.other (a := ⟨g, 0, none⟩) (.int .i64 a) (by dsimp only; omega)).other (a := ⟨g, 1, none⟩) (.slice none 0 0) (by dsimp only; omega)).other (a := ⟨g, 2, none⟩) (.int .i64 1) (by dsimp only; omega)).other (a := ⟨g, 3, none⟩) (.slice none 0 0) (by dsimp only; omega)).other (a := ⟨g, 4, none⟩) (.int .i64 b) (by dsimp only; omega)).other (a := ⟨g, 5, none⟩) (.slice none 0 0) (by dsimp only; omega)).other (a := ⟨g, 6, none⟩) (.int .i64 1) (by dsimp only; omega)).other (a := ⟨g, 7, none⟩) (.slice none 0 0) (by dsimp only; omega))
    clear HP p0 p1 p2 p3 p4 p5 p6 p7 pf pz
    clear q0 q1 q2 q3 q4 q5 q6 q7 qf qz
    clear z0 z1 zf zz
    generalize ((((((((u.setCell ⟨g, 0, none⟩ (.int .i64 a)).setCell ⟨g, 1, none⟩ (.slice none 0 0)).setCell ⟨g, 2, none⟩ (.int .i64 1)).setCell ⟨g, 3, none⟩ (.slice none 0 0)).setCell ⟨g, 4, none⟩ (.int .i64 b)).setCell ⟨g, 5, none⟩ (.slice none 0 0)).setCell ⟨g, 6, none⟩ (.int .i64 1)).setCell ⟨g, 7, none⟩ (.slice none 0 0)) = wF at *
    have HP := Lib.hid hF
    clear hF
    obtain ⟨p0, p1, p2, p3, p4, p5, p6, p7, pf, pz⟩ := HP.out.w8
    obtain ⟨q0, q1, q2, q3, q4, q5, q6, q7, qf, qz⟩ := HQ.out.w8
    obtain ⟨z0, z1, zf, zz⟩ := HZ.out.v2
    have hF := ((((((((HQ.out.set 0 (.int .i64 c)).set 1 (.slice none 0 0)).set 2 (.int .i64 1)).set 3 (.slice none 0 0)).set 4 (.int .i64 d)).set 5 (.slice none 0 0)).set 6 (.int .i64 1)).set 7 (.slice none 0 0))
    replace HB := Lib.hid ((((((((HB.out.setCell (p := ⟨k, 0, none⟩) (by first | exact Nat.le_refl _ | (dsimp only; omega)) (.int .i64 c)).setCell (p := ⟨k, 1, none⟩) (by first | exact Nat.le_refl _ | (dsimp only; omega)) (.slice none 0 0)).setCell (p := ⟨k, 2, none⟩) (by first | exact Nat.le_refl _ | (dsimp only; omega)) (.int .i64 1)).setCell (p := ⟨k, 3, none⟩) (by first | exact Nat.le_refl _ | (dsimp only; omega)) (.slice none 0 0)).setCell (p := ⟨k, 4, none⟩) (by first | exact Nat.le_refl _ | (dsimp only; omega)) (.int .i64 d)).setCell (p := ⟨k, 5, none⟩) (by first | exact Nat.le_refl _ | (dsimp only; omega)) (.slice none 0 0)).setCell (p := ⟨k, 6, none⟩) (by first | exact Nat.le_refl _ | (dsimp only; omega)) (.int .i64 1)).setCell (p := ⟨k, 7, none⟩) (by first | exact Nat.le_refl _ | (dsimp only; omega)) (.slice none 0 0))
    simp only [List.set_cons_succ, List.set_cons_zero] at hF
    replace HP := Lib.hid ((((((((HP.out.other (a := ⟨k, 0, none⟩) (.int .i64 c) (by dsimp only; omega)).other (a := ⟨k, 1, none⟩) (.slice none 0 0) (by dsimp only; omega)).other (a := ⟨k, 2, none⟩) (.int .i64 1) (by dsimp only; omega)).other (a := ⟨k, 3, none⟩) (.slice none 0 0) (by dsimp only; omega)).other (a := ⟨k, 4, none⟩) (.int .i64 d) (by dsimp only; omega)).other (a := ⟨k, 5, none⟩) (.slice none 0 0) (by dsimp only; omega)).other (a := ⟨k, 6, none⟩) (.int .i64 1) (by dsimp only; omega)).other (a := ⟨k, 7, none⟩) (.slice none 0 0) (by dsimp only; omega))
    replace HZ := Lib.hid ((((((((HZ.out.other (a := ⟨k, 0, none⟩) (.int .i64 c) (by dsimp only; omega)).other (a := ⟨k, 1, none⟩) (.slice none 0 0) (by dsimp only; omega)).other (a := ⟨k, 2, none⟩) (.int .i64 1) (by dsimp only; omega)).other (a := ⟨k, 3, none⟩) (.slice none 0 0) (by dsimp only; omega)).other (a := ⟨k, 4, none⟩) (.int .i64 d) (by dsimp only; omega)).other (a := ⟨k, 5, none⟩) (.slice none 0 0) (by dsimp only; omega)).other (a := ⟨k, 6, none⟩) (.int .i64 1) (by dsimp only; omega)).other (a := ⟨k, 7, none⟩) (.slice none 0 0) (by dsimp only; omega))
    clear HQ q0 q1 q2 q3 q4 q5 q6 q7 qf qz
    clear p0 p1 p2 p3 p4 p5 p6 p7 pf pz
    clear z0 z1 zf zz
    generalize ((((((((wF.setCell ⟨k, 0, none⟩ (.int .i64 c)).setCell ⟨k, 1, none⟩ (.slice none 0 0)).setCell ⟨k, 2, none⟩ (.int .i64 1)).setCell ⟨k, 3, none⟩ (.slice none 0 0)).setCell ⟨k, 4, none⟩ (.int .i64 d)).setCell ⟨k, 5, none⟩ (.slice none 0 0)).setCell ⟨k, 6, none⟩ (.int .i64 1)).setCell ⟨k, 7, none⟩ (.slice none 0 0)) = wF at *
    have HQ := Lib.hid hF
    clear hF
    obtain ⟨q0, q1, q2, q3, q4, q5, q6, q7, qf, qz⟩ := HQ.out.w8
    obtain ⟨p0, p1, p2, p3, p4, p5, p6, p7, pf, pz⟩ := HP.out.w8
    obtain ⟨z0, z1, zf, zz⟩ := HZ.out.v2
    have HGL := Lib.hid (fun X : Later _ => HG.out X.w (HB.out.trans (X.h.mono HB.out.size)))
    refine wp_region_head_later 13 (by kernel_rfl) (by kernel_rfl) ?_
    simp only [List.take_succ_cons, List.take_zero, List.drop_succ_cons, List.drop_zero]
    repeat go_big_quiet_step ((first | (go_at_call 44; first | with_reducible exact Calls.later (HLO.out _) | with_reducible exact Calls.later (HHI.out _)) | (go_at_call 42; exact Calls.later (HGL.out _))))
    refine wpQuiet_nil ?_
    rintro w7 ⟨⟨_, hb7⟩, rfl⟩
    replace HZ := Lib.hid (HZ.out.later hb7)
    replace HB := Lib.hid (HB.out.trans (hb7.mono HB.out.size))
    clear hb7 z0 z1 zf zz p0 p1 p2 p3 p4 p5 p6 p7 pf pz q0 q1 q2 q3 q4 q5 q6 q7 qf qz HP HQ
    obtain ⟨z0, z1, zf, zz⟩ := HZ.out.v2
    go_wp2_with fail
    refine bodyPost_ret (v := .tuple #[.agg #[.string XL, .string XH], .int .i64 0]) (by simp [results, Tryz.results13, go_sem, *]) rfl ?_
    refine Ret.mk rfl ?_
    repeat (first | with_reducible exact HB.out | with_reducible exact Below.refl _ _ | refine Below.setCell ?_ (by first | (dsimp only; omega) | (simp; done) | (simp; omega)) _ | refine Below.alloc ?_ (by first | omega | (simp; done) | (simp; omega)) _ | refine Below.drew ?_)
end Go.Proofs.YtflchbejjofppaaGreatDoor.Nu
/- Walks: the reference's Check, CheckSpan, In at whole numbers. -/
namespace Go.Proofs.YtflchbejjofppaaGreatDoor.Nu
open Go Go.Proofs Go.RowKit Go.Proofs.YtflchbejjofppaaGreatDoor
set_option maxRecDepth 100000 in
set_option maxHeartbeats 1000000 in
theorem decForm75 (w : World) (n : Nat) (hn : (Lib.decDigits n).length ≤ 1000) : Calls Tryz.prog 75 #[.string (tx (Lib.decDigits n))] w fun e w' => e = .returned (.bool true) ∧ w = w' := by
  have HD := Lib.hid (fun (w1 : World) => digits106 w1 (Lib.decDigits n) (by omega) (dec_dig n))
  have hlt := dec_pos_len n
  have hi : ∀ (w : World), (Instr.index 9 (.string (tx (Lib.decDigits n))) (.int .i64 0)).run Tryz.prog w = .ok (.int .u8 ((Lib.decDigits n)[0].toNat : Int)) w := fun w => run_idx (P := Tryz.prog) (t := 9) Tryz.underlying9 _ 0 hlt w
  have hsz : (tx (Lib.decDigits n)).size = (Lib.decDigits n).length := tx_size _
  have hway : ((Lib.decDigits n).length = 1) ∨ (1 < (Lib.decDigits n).length ∧ (((Lib.decDigits n)[0].toNat : Int) == 48) = false) := by
    rcases (show (Lib.decDigits n).length = 1 ∨ 1 < (Lib.decDigits n).length by omega) with h | h
    · exact .inl h
    · refine .inr ⟨h, beq_eq_false_iff_ne.2 fun e => ?_⟩
      have h0 : 0 < n := by
        rcases Nat.eq_zero_or_pos n with h0 | h0
        · rw [h0, dec_zero] at h; simp at h
        · exact h0
      have h1 := dec_head h0
      rw [List.head?_eq_getElem?, List.getElem?_eq_getElem hlt] at h1
      exact h1 (congrArg some (UInt8.toNat_inj.1 (by rw [show (48 : UInt8).toNat = 48 from rfl]; omega)))
  generalize ((Lib.decDigits n)[0].toNat : Int) = c at *
  generalize tx (Lib.decDigits n) = X at *
  generalize (Lib.decDigits n).length = m at *
  have d0 : (m == 0) = false := beq_eq_false_iff_ne.2 (by omega)
  have d0' : ((m : Int) == 0) = false := beq_eq_false_iff_ne.2 (by omega)
  rcases hway with rfl | ⟨h1, h2⟩
  · clear hlt hn
    go_enter Tryz.func75, Tryz.ntmps75
    go_wp2_with fail
    refine (HD.out _).mono ?_
    rintro e4 w4 ⟨rfl, rfl⟩
    go_wp2_with fail
    go_ret
    exact ⟨rfl, rfl⟩
  · go_enter Tryz.func75, Tryz.ntmps75
    go_wp2_with fail
    refine (HD.out _).mono ?_
    rintro e4 w4 ⟨rfl, rfl⟩
    go_wp2_with fail
    go_ret
    exact ⟨rfl, rfl⟩
set_option maxRecDepth 100000 in
set_option maxHeartbeats 4000000 in
theorem zcheck45 (w : World) (z : Int) (hz : z.natAbs < 1000000000000000000) : Calls Tryz.prog 45 #[.string (txz z)] w fun e w' => e = .returned (.int .i64 0) ∧ w = w' := by
  have hln : (Lib.decDigits z.natAbs).length ≤ 18 := (dec_len_le (by decide)).2 (by rw [show (10 : Nat) ^ 18 = 1000000000000000000 by decide]; exact hz)
  have hln0 := dec_pos_len z.natAbs
  have hno : (47 : UInt8) ∉ Lib.decDigits z.natAbs := fun h => absurd (dec_dig _ _ h) (by decide)
  have HSL := Lib.hid (fun (w1 : World) => (by
    have h := slash74 w1 (Lib.decDigits z.natAbs) (by omega)
    rwa [slash_no hno] at h : Calls Tryz.prog 74 #[.string (tx (Lib.decDigits z.natAbs))] w1 fun e w' => e = .returned (.int .i64 (((Lib.decDigits z.natAbs).length : Nat) : Int)) ∧ w1 = w'))
  have HDF := Lib.hid (fun (w1 : World) => decForm75 w1 z.natAbs (by omega))
  have hx1 : (tx (Lib.decDigits z.natAbs)).extract 0 (Lib.decDigits z.natAbs).length = tx (Lib.decDigits z.natAbs) := by
    rw [tx_extract]; simp
  have hsb : (tx (Lib.decDigits z.natAbs)).size = (Lib.decDigits z.natAbs).length := tx_size _
  have hsg : (z < 0 ∧ txz z = tx (45 :: Lib.decDigits z.natAbs) ∧ ((tx (Lib.decDigits z.natAbs)).toList == [48]) = false) ∨ (0 ≤ z ∧ txz z = tx (Lib.decDigits z.natAbs)) := by
    by_cases hn : z < 0
    · refine .inl ⟨hn, by unfold txz; rw [itoa_ng hn], ?_⟩
      rw [tx_beq]
      refine decide_eq_false (fun e => ?_)
      have : z.natAbs = 0 := dec_inj (by rw [e, dec_zero])
      omega
    · exact .inr ⟨Int.not_lt.1 hn, by unfold txz; rw [itoa_nn (Int.not_lt.1 hn), toNat_abs (Int.not_lt.1 hn)]⟩
  have hc0 : (((Lib.decDigits z.natAbs)[0].toNat : Int) == 45) = false := beq_eq_false_iff_ne.2 (fun e => by
    have h1 := dec_dig z.natAbs _ (List.getElem_mem hln0)
    obtain ⟨h2, h3⟩ := h1
    omega)
  have hi0 : ∀ (t : TypeId) (ht : Tryz.prog.underlying t = some .string) (w : World), (Instr.index t (.string (tx (Lib.decDigits z.natAbs))) (.int .i64 0)).run Tryz.prog w = .ok (.int .u8 ((Lib.decDigits z.natAbs)[0].toNat : Int)) w := fun t ht w => run_idx (P := Tryz.prog) (t := t) ht _ 0 hln0 w
  have hi1 : ∀ (t : TypeId) (ht : Tryz.prog.underlying t = some .string) (w : World), (Instr.index t (.string (tx (45 :: Lib.decDigits z.natAbs))) (.int .i64 0)).run Tryz.prog w = .ok (.int .u8 45) w := fun t ht w => run_idx (P := Tryz.prog) (t := t) ht (45 :: Lib.decDigits z.natAbs) 0 (by simp) w
  have hx0 : (tx (45 :: Lib.decDigits z.natAbs)).extract 1 ((Lib.decDigits z.natAbs).length + 1) = tx (Lib.decDigits z.natAbs) := by
    rw [tx_extract]; simp
  have hs1 : (tx (45 :: Lib.decDigits z.natAbs)).size = (Lib.decDigits z.natAbs).length + 1 := tx_size _
  have hi09 := hi0 9 Tryz.underlying9
  have hi037 := hi0 37 Tryz.underlying37
  have hi19 := hi1 9 Tryz.underlying9
  have hi137 := hi1 37 Tryz.underlying37
  clear hno hz hi0 hi1
  generalize txz z = X at *
  generalize (Lib.decDigits z.natAbs)[0].toNat = c at *
  generalize tx (45 :: Lib.decDigits z.natAbs) = X1 at *
  generalize tx (Lib.decDigits z.natAbs) = B at *
  generalize (Lib.decDigits z.natAbs).length = k at *
  have d1 : decide (600 < k) = false := decide_eq_false (by omega)
  have d2 : decide ((600 : Int) < (k : Int)) = false := decide_eq_false (by omega)
  have k1 : IntKind.i64.wrap ((k : Int) - (k : Int)) = 0 := by rw [Int.sub_self]; exact IntWalk.i64_in _ (by omega)
  rcases hsg with ⟨hz, rfl, hb48⟩ | ⟨hz, rfl⟩
  · clear hi09 hi037
    go_enter Tryz.func45, Tryz.ntmps45
    go_wp2_with fail
    refine (HSL.out _).mono ?_
    rintro e4 w4 ⟨rfl, rfl⟩
    go_wp2_with fail
    refine (HDF.out _).mono ?_
    rintro e5 w5 ⟨rfl, rfl⟩
    go_wp2_with fail
    go_ret
    exact ⟨rfl, rfl⟩
  · clear hi19 hi137
    go_enter Tryz.func45, Tryz.ntmps45
    go_wp2_with fail
    refine (HSL.out _).mono ?_
    rintro e4 w4 ⟨rfl, rfl⟩
    go_wp2_with fail
    refine (HDF.out _).mono ?_
    rintro e5 w5 ⟨rfl, rfl⟩
    go_wp2_with fail
    go_ret
    exact ⟨rfl, rfl⟩
set_option maxRecDepth 100000 in
set_option maxHeartbeats 1000000 in
theorem zcheckSpan14 (w : World) (a b : Int) (hk : AddK (a : Rat) ((-b : Int) : Rat)) (h1 : a.natAbs < 400000000000000000) (h2 : b.natAbs < 400000000000000000) (hab : a ≤ b) : Calls Tryz.prog 14 #[.agg #[.string (txz a), .string (txz b)]] w (Ret (.int .i64 0) w) := by
  have HA := Lib.hid (fun (w1 : World) => zcheck45 w1 a (by omega))
  have HBB := Lib.hid (fun (w1 : World) => zcheck45 w1 b (by omega))
  have HC := Lib.hid (fun (w1 : World) => zcmp46 w1 a b hk h1 h2)
  have d0 : decide (0 < (a - b).sign) = false := by
    rcases Int.lt_trichotomy (a - b) 0 with h | h | h
    · rw [Int.sign_eq_neg_one_of_neg h]; rfl
    · rw [h]; rfl
    · omega
  generalize (a - b).sign = s at *
  generalize txz a = X at *
  generalize txz b = Y at *
  clear hk h1 h2 hab
  have HB := Lib.hid ((Below.refl w.heap.size w).alloc (Nat.le_refl _) (.cells #[.string X, .string Y] 39))
  have HX := Lib.hid (Box.new w #[.string X, .string Y] 39)
  obtain ⟨x0, x1, xf, xz⟩ := HX.out.v2
  go_enter Tryz.func14, Tryz.ntmps14
  go_wp2_with fail
  refine (HA.out _).mono ?_
  rintro e4 w4 ⟨rfl, rfl⟩
  go_wp2_with fail
  refine (HBB.out _).mono ?_
  rintro e5 w5 ⟨rfl, rfl⟩
  go_wp2_with fail
  refine (HC.out _).mono ?_
  rintro e6 w6 ⟨rfl, hb⟩
  replace HB := Lib.hid (HB.out.trans (hb.mono HB.out.size))
  clear hb
  go_wp2_with fail
  go_ret
  exact ⟨rfl, HB.out⟩
set_option maxRecDepth 100000 in
set_option maxHeartbeats 1000000 in
theorem zin17 (w : World) (z a b : Int) (hk1 : AddK (a : Rat) ((-z : Int) : Rat)) (hk2 : AddK (z : Rat) ((-b : Int) : Rat)) (h0 : z.natAbs < 400000000000000000) (h1 : a.natAbs < 400000000000000000) (h2 : b.natAbs < 400000000000000000) : Calls Tryz.prog 17 #[.string (txz z), .agg #[.string (txz a), .string (txz b)]] w (Ret (.bool (decide (a ≤ z) && decide (z ≤ b))) w) := by
  have HC := Lib.hid (fun (w1 : World) => zcmp46 w1 a z hk1 h1 h0)
  have HC2 := Lib.hid (fun (w1 : World) => zcmp46 w1 z b hk2 h0 h2)
  have hs : ∀ x y : Int, decide ((x - y).sign ≤ 0) = decide (x ≤ y) := fun x y => by
    rcases Int.lt_trichotomy (x - y) 0 with h | h | h
    · rw [Int.sign_eq_neg_one_of_neg h, decide_eq_true (show x ≤ y by omega)]; rfl
    · rw [h, decide_eq_true (show x ≤ y by omega)]; rfl
    · rw [Int.sign_eq_one_of_pos h, decide_eq_false (show ¬ x ≤ y by omega)]; rfl
  have d1 := hs a z
  have d2 := hs z b
  generalize (a - z).sign = s1 at *
  generalize (z - b).sign = s2 at *
  generalize decide (a ≤ z) = p at *
  generalize decide (z ≤ b) = q at *
  generalize txz a = X at *
  generalize txz b = Y at *
  generalize txz z = Z at *
  clear hk1 hk2 h0 h1 h2 hs
  have HB := Lib.hid ((Below.refl w.heap.size w).alloc (Nat.le_refl _) (.cells #[.string X, .string Y] 39))
  have HX := Lib.hid (Box.new w #[.string X, .string Y] 39)
  obtain ⟨x0, x1, xf, xz⟩ := HX.out.v2
  cases p with
  | true =>
    go_enter Tryz.func17, Tryz.ntmps17
    go_wp2_with fail
    refine (HC.out _).mono ?_
    rintro e4 w4 ⟨rfl, hb⟩
    replace HB := Lib.hid (HB.out.trans (hb.mono HB.out.size))
    replace HX := Lib.hid (HX.out.later hb)
    clear hb x0 x1 xf xz
    obtain ⟨x0, x1, xf, xz⟩ := HX.out.v2
    go_wp2_with fail
    refine (HC2.out _).mono ?_
    rintro e5 w5 ⟨rfl, hb⟩
    replace HB := Lib.hid (HB.out.trans (hb.mono HB.out.size))
    clear hb
    go_wp2_with fail
    go_ret
    exact ⟨by simp, HB.out⟩
  | false =>
    go_enter Tryz.func17, Tryz.ntmps17
    go_wp2_with fail
    refine (HC.out _).mono ?_
    rintro e4 w4 ⟨rfl, hb⟩
    replace HB := Lib.hid (HB.out.trans (hb.mono HB.out.size))
    replace HX := Lib.hid (HX.out.later hb)
    clear hb x0 x1 xf xz
    obtain ⟨x0, x1, xf, xz⟩ := HX.out.v2
    go_wp2_with fail
    go_ret
    exact ⟨by simp, HB.out⟩
end Go.Proofs.YtflchbejjofppaaGreatDoor.Nu
/- The rule of one invariant (Rq), where stores too may stand among the head operations. -/
namespace Go
open Go.RowKit
section
def JoinPostS (a0 : Act) (o : Oper) (K : Value → World → Prop) (e : Exit) (a : Act) (w : World) : Prop := e = .normal ∧ a.defers = a0.defers ∧ ∃ v, (∀ t, o.dst = some t → a.tmps[t]? = some v) ∧ K v w
theorem JoinPostS.out {a0 : Act} {o : Oper} {K : Value → World → Prop} : ¬ LetsOut (JoinPostS a0 o K) := fun ⟨_, _, h⟩ => by cases h.1
variable {P : Program} {l : List Oper} {n : Nat} {a0 : Act} {J : (Nat → Bool) → (Nat → Value) → World → Prop} {Q : Exit → Act → World → Prop}
end
end Go
