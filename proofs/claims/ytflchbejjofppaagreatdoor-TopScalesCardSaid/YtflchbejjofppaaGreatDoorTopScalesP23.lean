/- Lemmas on the way to the law TopScales (part 23): Gk -/
import Derived.Test.YtflchbejjofppaaGreatDoorTopScalesP20
import Derived.Test.YtflchbejjofppaaGreatDoorTopScalesP17
set_option linter.unusedVariables false
set_option linter.unusedSimpArgs false

/- Walks: measure.AddSpans, SubSpans at whole numbers. -/
namespace Go.Proofs.YtflchbejjofppaaGreatDoor.Nu
open Go Go.Proofs Go.RowKit Go.Proofs.YtflchbejjofppaaGreatDoor
def SepR (c : List Value) (t : TypeId) (zs : List Value) (lo : Nat) (j : Nat) (v : Value) (u : World) : Prop :=
  match c[j]? with
  | some x => v = x
  | none => ∃ g, v = .pointer (some ⟨g, 0, none⟩) ∧ Box u g t zs ∧ lo ≤ g
theorem SepR.later {c : List Value} {t : TypeId} {zs : List Value} {lo j : Nat} {v : Value} {u u' : World} (h : SepR c t zs lo j v u) (hb : Below u.heap.size u u') : SepR c t zs lo j v u' := by
  unfold SepR at h ⊢
  split <;> rename_i e <;> rw [e] at h
  · exact h
  · obtain ⟨g, h1, h2, h3⟩ := h
    exact ⟨g, h1, h2.later hb, h3⟩
set_option maxRecDepth 100000 in
set_option maxHeartbeats 4000000 in
theorem addSpans11 (w : World) (hw : TbR w) (a b c d : Int) (h1 : SpOk (a, b)) (h2 : SpOk (c, d)) (hl : Sm (a + c)) (hh : Sm (b + d)) : Calls Tryz.prog 11 #[.agg #[.string (txz a), .string (txz b)], .agg #[.string (txz c), .string (txz d)]] w (Ret (.tuple #[.agg #[.string (txz (a + c)), .string (txz (b + d))], .int .i64 0]) w) := by
  have e18 : (10 : Nat) ^ 18 = 1000000000000000000 := by decide
  have ha := h1.lo
  have hb := h1.hi
  have hc := h2.lo
  have hd := h2.hi
  dsimp only at ha hb hc hd
  have HCA := Lib.hid (fun (w1 : World) (v : Value) (hb1 : Below w.heap.size w w1) (hv : Sl encP 2 w1 w1.heap.size v [(a, b), (c, d)]) => checkAll39 w1 (hw.later hb1) v [(a, b), (c, d)] hv (by intro p hp; simp at hp; rcases hp with rfl | rfl <;> assumption))
  have HOA := Lib.hid (fun (w1 : World) (hb1 : Below w.heap.size w w1) => of41 w1 (hw.later hb1) a b ha hb)
  have HOB := Lib.hid (fun (w1 : World) (hb1 : Below w.heap.size w w1) => of41 w1 (hw.later hb1) c d hc hd)
  have HLO := Lib.hid (fun (w1 : World) => sadd43 w1 a c hl)
  have HHI := Lib.hid (fun (w1 : World) => sadd43 w1 b d hh)
  have HG := Lib.hid (fun (w1 : World) (hb1 : Below w.heap.size w w1) => giveSpan42 w1 (hw.later hb1) (a + c) (b + d) hl hh)
  have HLT := Lib.hid (fun (w1 : World) => Sl.lit (f := encP) (sz := 2) encP_len [(a, b), (c, d)] w1 #[.string (txz a), .string (txz b), .string (txz c), .string (txz d)] 39 2 rfl rfl (by simp))
  generalize txz a = XA at *
  generalize txz b = XB at *
  generalize txz c = XC at *
  generalize txz d = XD at *
  generalize txz (a + c) = XL at *
  generalize txz (b + d) = XH at *
  generalize a + c = lo at *
  generalize b + d = hi at *
  clear ha hb hc hd e18 h1 h2 hl hh
  have HB_0 := Lib.hid ((Below.refl w.heap.size w).alloc (Nat.le_refl _) (.cells #[.string XA, .string XB] 39))
  have HB_1 := Lib.hid (HB_0.out.alloc HB_0.out.size (.cells #[.string XC, .string XD] 39))
  have HB := Lib.hid (HB_1.out.alloc HB_1.out.size (.cells #[.string ⟨#[]⟩, .string ⟨#[]⟩] 39))
  have HX := Lib.hid (((Box.new w #[.string XA, .string XB] 39).alloc (.cells #[.string XC, .string XD] 39)).alloc (.cells #[.string ⟨#[]⟩, .string ⟨#[]⟩] 39))
  have HY := Lib.hid ((Box.newAt (w.alloc (.cells #[.string XA, .string XB] 39)) #[.string XC, .string XD] 39 (n := w.heap.size + 1) (by simp)).alloc (.cells #[.string ⟨#[]⟩, .string ⟨#[]⟩] 39))
  have HZ := Lib.hid (Box.newAt ((w.alloc (.cells #[.string XA, .string XB] 39)).alloc (.cells #[.string XC, .string XD] 39)) #[.string ⟨#[]⟩, .string ⟨#[]⟩] 39 (n := w.heap.size + 1 + 1) (by simp))
  obtain ⟨x0, x1, xf, xz⟩ := HX.out.v2
  obtain ⟨y0, y1, yf, yz⟩ := HY.out.v2
  obtain ⟨z0, z1, zf, zz⟩ := HZ.out.v2
  clear HB_0 HB_1
  go_enter Tryz.func11, Tryz.ntmps11
  go_wp2_with fail
  have HB1 := Lib.hid (HB.out.alloc HB.out.size (.cells #[.string XA, .string XB, .string XC, .string XD] 39))
  have hl1 := HLT.out (((w.alloc (.cells #[.string XA, .string XB] 39)).alloc (.cells #[.string XC, .string XD] 39)).alloc (.cells #[.string ⟨#[]⟩, .string ⟨#[]⟩] 39))
  rw [show (((w.alloc (.cells #[.string XA, .string XB] 39)).alloc (.cells #[.string XC, .string XD] 39)).alloc (.cells #[.string ⟨#[]⟩, .string ⟨#[]⟩] 39)).heap.size = w.heap.size + 1 + 1 + 1 by simp] at hl1
  have HL1 := Lib.hid hl1
  have HX1 := Lib.hid (HX.out.alloc (.cells #[.string XA, .string XB, .string XC, .string XD] 39))
  have HY1 := Lib.hid (HY.out.alloc (.cells #[.string XA, .string XB, .string XC, .string XD] 39))
  have HZ1 := Lib.hid (HZ.out.alloc (.cells #[.string XA, .string XB, .string XC, .string XD] 39))
  clear hl1 HLT
  refine (HCA.out _ _ HB1.out HL1.out).mono ?_
  rintro e4 w4 ⟨rfl, hb⟩
  clear HX HY HZ HB x0 x1 xf xz y0 y1 yf yz z0 z1 zf zz
  have HX := Lib.hid (HX1.out.later hb)
  have HY := Lib.hid (HY1.out.later hb)
  have HZ := Lib.hid (HZ1.out.later hb)
  have HB := Lib.hid (HB1.out.trans (hb.mono HB1.out.size))
  clear hb HX1 HY1 HZ1 HB1 HL1
  obtain ⟨x0, x1, xf, xz⟩ := HX.out.v2
  obtain ⟨y0, y1, yf, yz⟩ := HY.out.v2
  obtain ⟨z0, z1, zf, zz⟩ := HZ.out.v2
  go_wp2_with fail
  clear x0 x1 xf xz y0 y1 yf yz
  refine wp_region_sep 6 (fun j => decide (4 ≤ j)) (SepR [.agg #[.string XA, .string XB], .agg #[.int .i64 a, .slice none 0 0, .int .i64 1, .slice none 0 0, .int .i64 b, .slice none 0 0, .int .i64 1, .slice none 0 0], .agg #[.string XC, .string XD], .agg #[.int .i64 c, .slice none 0 0, .int .i64 1, .slice none 0 0, .int .i64 d, .slice none 0 0, .int .i64 1, .slice none 0 0]] 85 #[.int .i64 0, .slice none 0 0, .int .i64 0, .slice none 0 0, .int .i64 0, .slice none 0 0, .int .i64 0, .slice none 0 0].toList w4.heap.size) (by kernel_rfl) (by kernel_rfl) (fun j v u u' h hb => h.later hb) ?_ ?_
  · refine ⟨?_, ?_, ?_, ?_, ?_, ?_, trivial⟩
    all_goals
      intro vs u hu hR
      simp only [putsN, List.take_succ_cons, List.take_zero, Act.put, List.setIfInBounds_toArray, List.set_cons_succ, List.set_cons_zero]
    · obtain ⟨x0, x1, xf, xz⟩ := (HX.out.later hu).v2
      clear hR hu
      go_wp2_with fail
      exact ⟨rfl, rfl, _, _, rfl, rfl, Below.refl _ _, rfl, fun h => absurd h (by decide)⟩
    · have e0 : vs 0 = .agg #[.string XA, .string XB] := hR 0 (by decide) (by kernel_rfl)
      have HS := Lib.hid (HOA.out u (HB.out.trans (hu.mono HB.out.size)))
      clear hR hu
      go_wp2_with fail
      refine HS.out.mono ?_
      rintro e11 w11 ⟨rfl, hb⟩
      go_wp2_with fail
      exact ⟨rfl, rfl, _, _, rfl, rfl, hb, rfl, fun h => absurd h (by decide)⟩
    · obtain ⟨y0, y1, yf, yz⟩ := (HY.out.later hu).v2
      clear hR hu
      go_wp2_with fail
      exact ⟨rfl, rfl, _, _, rfl, rfl, Below.refl _ _, rfl, fun h => absurd h (by decide)⟩
    · have e0 : vs 2 = .agg #[.string XC, .string XD] := hR 2 (by decide) (by kernel_rfl)
      have HS := Lib.hid (HOB.out u (HB.out.trans (hu.mono HB.out.size)))
      clear hR hu
      go_wp2_with fail
      refine HS.out.mono ?_
      rintro e11 w11 ⟨rfl, hb⟩
      go_wp2_with fail
      exact ⟨rfl, rfl, _, _, rfl, rfl, hb, rfl, fun h => absurd h (by decide)⟩
    · have hsz := hu.size
      clear hR hu
      go_wp2_with fail
      exact ⟨rfl, rfl, _, _, rfl, rfl, (Below.refl _ _).alloc (Nat.le_refl _) _, ⟨_, rfl, Box.new u #[.int .i64 0, .slice none 0 0, .int .i64 0, .slice none 0 0, .int .i64 0, .slice none 0 0, .int .i64 0, .slice none 0 0] 85, hsz⟩, fun _ => ⟨Nat.le_refl _, by simp [blk]⟩⟩
    · have hsz := hu.size
      clear hR hu
      go_wp2_with fail
      exact ⟨rfl, rfl, _, _, rfl, rfl, (Below.refl _ _).alloc (Nat.le_refl _) _, ⟨_, rfl, Box.new u #[.int .i64 0, .slice none 0 0, .int .i64 0, .slice none 0 0, .int .i64 0, .slice none 0 0, .int .i64 0, .slice none 0 0] 85, hsz⟩, fun _ => ⟨Nat.le_refl _, by simp [blk]⟩⟩
  · intro vs u hu hR hsep
    have e1 : vs 1 = .agg #[.int .i64 a, .slice none 0 0, .int .i64 1, .slice none 0 0, .int .i64 b, .slice none 0 0, .int .i64 1, .slice none 0 0] := hR 1 (by decide)
    have e3 : vs 3 = .agg #[.int .i64 c, .slice none 0 0, .int .i64 1, .slice none 0 0, .int .i64 d, .slice none 0 0, .int .i64 1, .slice none 0 0] := hR 3 (by decide)
    obtain ⟨g, e4, hbg, hlg⟩ := hR 4 (by decide)
    obtain ⟨k, e5, hbk, hlk⟩ := hR 5 (by decide)
    have hgk : g ≠ k := by have := hsep 4 5 (by decide) (by decide) (by decide) (by decide) (by decide); rw [e4, e5] at this; exact this
    have hwg : w.heap.size ≤ g := by have := HB.out.size; omega
    have hwk : w.heap.size ≤ k := by have := HB.out.size; omega
    have hzg : w.heap.size + 1 + 1 ≠ g ∧ w.heap.size + 1 + 1 ≠ k := by have := HZ.out.lt; omega
    obtain ⟨hzg, hzk⟩ := hzg
    simp only [putsN, List.drop_succ_cons, List.drop_zero, List.take_succ_cons, List.take_zero, Act.put, List.setIfInBounds_toArray, List.set_cons_succ, List.set_cons_zero, e1, e3, e4, e5]
    have HP := Lib.hid hbg
    have HQ := Lib.hid hbk
    replace HZ := Lib.hid (HZ.out.later hu)
    replace HB := Lib.hid (HB.out.trans (hu.mono HB.out.size))
    clear hbg hbk hR hu hsep e1 e3 e4 e5 hlg hlk HX HY HOA HOB HCA z0 z1 zf zz
    obtain ⟨p0, p1, p2, p3, p4, p5, p6, p7, pf, pz⟩ := HP.out.w8
    obtain ⟨q0, q1, q2, q3, q4, q5, q6, q7, qf, qz⟩ := HQ.out.w8
    obtain ⟨z0, z1, zf, zz⟩ := HZ.out.v2
    go_wp2_with fail
    have hF := ((((((((HP.out.set 0 (.int .i64 a)).set 1 (.slice none 0 0)).set 2 (.int .i64 1)).set 3 (.slice none 0 0)).set 4 (.int .i64 b)).set 5 (.slice none 0 0)).set 6 (.int .i64 1)).set 7 (.slice none 0 0))
    replace HB := Lib.hid ((((((((HB.out.setCell (p := ⟨g, 0, none⟩) (by first | exact Nat.le_refl _ | (dsimp only; omega)) (.int .i64 a)).setCell (p := ⟨g, 1, none⟩) (by first | exact Nat.le_refl _ | (dsimp only; omega)) (.slice none 0 0)).setCell (p := ⟨g, 2, none⟩) (by first | exact Nat.le_refl _ | (dsimp only; omega)) (.int .i64 1)).setCell (p := ⟨g, 3, none⟩) (by first | exact Nat.le_refl _ | (dsimp only; omega)) (.slice none 0 0)).setCell (p := ⟨g, 4, none⟩) (by first | exact Nat.le_refl _ | (dsimp only; omega)) (.int .i64 b)).setCell (p := ⟨g, 5, none⟩) (by first | exact Nat.le_refl _ | (dsimp only; omega)) (.slice none 0 0)).setCell (p := ⟨g, 6, none⟩) (by first | exact Nat.le_refl _ | (dsimp only; omega)) (.int .i64 1)).setCell (p := ⟨g, 7, none⟩) (by first | exact Nat.le_refl _ | (dsimp only; omega)) (.slice none 0 0))
    simp only [List.set_cons_succ, List.set_cons_zero] at hF
    replace HQ := Lib.hid ((((((((HQ.out.other (a := ⟨g, 0, none⟩) (.int .i64 a) (by dsimp only; omega)).other (a := ⟨g, 1, none⟩) (.slice none 0 0) (by dsimp only; omega)).other (a := ⟨g, 2, none⟩) (.int .i64 1) (by dsimp only; omega)).other (a := ⟨g, 3, none⟩) (.slice none 0 0) (by dsimp only; omega)).other (a := ⟨g, 4, none⟩) (.int .i64 b) (by dsimp only; omega)).other (a := ⟨g, 5, none⟩) (.slice none 0 0) (by dsimp only; omega)).other (a := ⟨g, 6, none⟩) (.int .i64 1) (by dsimp only; omega)).other (a := ⟨g, 7, none⟩) (.slice none 0 0) (by dsimp only; omega))
    replace HZ := Lib.hid ((((((((HZ.out.other (a := ⟨g, 0, none⟩) (.int .i64 a) (by dsimp only; omega)).other (a := ⟨g, 1, none⟩) (.slice none 0 0) (by dsimp only; omega)).other (a := ⟨g, 2, none⟩) (.int .i64 1) (by dsimp only; omega)).other (a := ⟨g, 3, none⟩) (.slice none 0 0) (by dsimp only; omega)).other (a := ⟨g, 4, none⟩) (.int .i64 b) (by dsimp only; omega)).other (a := ⟨g, 5, none⟩) (.slice none 0 0) (by dsimp only; omega)).other (a := ⟨g, 6, none⟩) (.int .i64 1) (by dsimp only; omega)).other (a := ⟨g, 7, none⟩) (.slice none 0 0) (by dsimp only; omega))
    clear HP p0 p1 p2 p3 p4 p5 p6 p7 pf pz
    clear q0 q1 q2 q3 q4 q5 q6 q7 qf qz
    clear z0 z1 zf zz
    generalize ((((((((u.setCell ⟨g, 0, none⟩ (.int .i64 a)).setCell ⟨g, 1, none⟩ (.slice none 0 0)).setCell ⟨g, 2, none⟩ (.int .i64 1)).setCell ⟨g, 3, none⟩ (.slice none 0 0)).setCell ⟨g, 4, none⟩ (.int .i64 b)).setCell ⟨g, 5, none⟩ (.slice none 0 0)).setCell ⟨g, 6, none⟩ (.int .i64 1)).setCell ⟨g, 7, none⟩ (.slice none 0 0)) = wF at *
    have HP := Lib.hid hF
    clear hF
    obtain ⟨p0, p1, p2, p3, p4, p5, p6, p7, pf, pz⟩ := HP.out.w8
    obtain ⟨q0, q1, q2, q3, q4, q5, q6, q7, qf, qz⟩ := HQ.out.w8
    obtain ⟨z0, z1, zf, zz⟩ := HZ.out.v2
    have hF := ((((((((HQ.out.set 0 (.int .i64 c)).set 1 (.slice none 0 0)).set 2 (.int .i64 1)).set 3 (.slice none 0 0)).set 4 (.int .i64 d)).set 5 (.slice none 0 0)).set 6 (.int .i64 1)).set 7 (.slice none 0 0))
    replace HB := Lib.hid ((((((((HB.out.setCell (p := ⟨k, 0, none⟩) (by first | exact Nat.le_refl _ | (dsimp only; omega)) (.int .i64 c)).setCell (p := ⟨k, 1, none⟩) (by first | exact Nat.le_refl _ | (dsimp only; omega)) (.slice none 0 0)).setCell (p := ⟨k, 2, none⟩) (by first | exact Nat.le_refl _ | (dsimp only; omega)) (.int .i64 1)).setCell (p := ⟨k, 3, none⟩) (by first | exact Nat.le_refl _ | (dsimp only; omega)) (.slice none 0 0)).setCell (p := ⟨k, 4, none⟩) (by first | exact Nat.le_refl _ | (dsimp only; omega)) (.int .i64 d)).setCell (p := ⟨k, 5, none⟩) (by first | exact Nat.le_refl _ | (dsimp only; omega)) (.slice none 0 0)).setCell (p := ⟨k, 6, none⟩) (by first | exact Nat.le_refl _ | (dsimp only; omega)) (.int .i64 1)).setCell (p := ⟨k, 7, none⟩) (by first | exact Nat.le_refl _ | (dsimp only; omega)) (.slice none 0 0))
    simp only [List.set_cons_succ, List.set_cons_zero] at hF
    replace HP := Lib.hid ((((((((HP.out.other (a := ⟨k, 0, none⟩) (.int .i64 c) (by dsimp only; omega)).other (a := ⟨k, 1, none⟩) (.slice none 0 0) (by dsimp only; omega)).other (a := ⟨k, 2, none⟩) (.int .i64 1) (by dsimp only; omega)).other (a := ⟨k, 3, none⟩) (.slice none 0 0) (by dsimp only; omega)).other (a := ⟨k, 4, none⟩) (.int .i64 d) (by dsimp only; omega)).other (a := ⟨k, 5, none⟩) (.slice none 0 0) (by dsimp only; omega)).other (a := ⟨k, 6, none⟩) (.int .i64 1) (by dsimp only; omega)).other (a := ⟨k, 7, none⟩) (.slice none 0 0) (by dsimp only; omega))
    replace HZ := Lib.hid ((((((((HZ.out.other (a := ⟨k, 0, none⟩) (.int .i64 c) (by dsimp only; omega)).other (a := ⟨k, 1, none⟩) (.slice none 0 0) (by dsimp only; omega)).other (a := ⟨k, 2, none⟩) (.int .i64 1) (by dsimp only; omega)).other (a := ⟨k, 3, none⟩) (.slice none 0 0) (by dsimp only; omega)).other (a := ⟨k, 4, none⟩) (.int .i64 d) (by dsimp only; omega)).other (a := ⟨k, 5, none⟩) (.slice none 0 0) (by dsimp only; omega)).other (a := ⟨k, 6, none⟩) (.int .i64 1) (by dsimp only; omega)).other (a := ⟨k, 7, none⟩) (.slice none 0 0) (by dsimp only; omega))
    clear HQ q0 q1 q2 q3 q4 q5 q6 q7 qf qz
    clear p0 p1 p2 p3 p4 p5 p6 p7 pf pz
    clear z0 z1 zf zz
    generalize ((((((((wF.setCell ⟨k, 0, none⟩ (.int .i64 c)).setCell ⟨k, 1, none⟩ (.slice none 0 0)).setCell ⟨k, 2, none⟩ (.int .i64 1)).setCell ⟨k, 3, none⟩ (.slice none 0 0)).setCell ⟨k, 4, none⟩ (.int .i64 d)).setCell ⟨k, 5, none⟩ (.slice none 0 0)).setCell ⟨k, 6, none⟩ (.int .i64 1)).setCell ⟨k, 7, none⟩ (.slice none 0 0)) = wF at *
    have HQ := Lib.hid hF
    clear hF
    obtain ⟨q0, q1, q2, q3, q4, q5, q6, q7, qf, qz⟩ := HQ.out.w8
    obtain ⟨p0, p1, p2, p3, p4, p5, p6, p7, pf, pz⟩ := HP.out.w8
    obtain ⟨z0, z1, zf, zz⟩ := HZ.out.v2
    have HGL := Lib.hid (fun X : Later _ => HG.out X.w (HB.out.trans (X.h.mono HB.out.size)))
    refine wp_region_head_later 13 (by kernel_rfl) (by kernel_rfl) ?_
    simp only [List.take_succ_cons, List.take_zero, List.drop_succ_cons, List.drop_zero]
    repeat go_big_quiet_step ((first | (go_at_call 43; first | with_reducible exact Calls.later (HLO.out _) | with_reducible exact Calls.later (HHI.out _)) | (go_at_call 42; exact Calls.later (HGL.out _))))
    refine wpQuiet_nil ?_
    rintro w7 ⟨⟨_, hb7⟩, rfl⟩
    replace HZ := Lib.hid (HZ.out.later hb7)
    replace HB := Lib.hid (HB.out.trans (hb7.mono HB.out.size))
    clear hb7 z0 z1 zf zz p0 p1 p2 p3 p4 p5 p6 p7 pf pz q0 q1 q2 q3 q4 q5 q6 q7 qf qz HP HQ
    obtain ⟨z0, z1, zf, zz⟩ := HZ.out.v2
    go_wp2_with fail
    refine bodyPost_ret (v := .tuple #[.agg #[.string XL, .string XH], .int .i64 0]) (by simp [results, Tryz.results11, go_sem, *]) rfl ?_
    refine Ret.mk rfl ?_
    repeat (first | with_reducible exact HB.out | with_reducible exact Below.refl _ _ | refine Below.setCell ?_ (by first | (dsimp only; omega) | (simp; done) | (simp; omega)) _ | refine Below.alloc ?_ (by first | omega | (simp; done) | (simp; omega)) _ | refine Below.drew ?_)
set_option maxRecDepth 100000 in
set_option maxHeartbeats 4000000 in
theorem subSpans13 (w : World) (hw : TbR w) (a b c d : Int) (h1 : SpOk (a, b)) (h2 : SpOk (c, d)) (hl : Sm (a - d)) (hh : Sm (b - c)) : Calls Tryz.prog 13 #[.agg #[.string (txz a), .string (txz b)], .agg #[.string (txz c), .string (txz d)]] w (Ret (.tuple #[.agg #[.string (txz (a - d)), .string (txz (b - c))], .int .i64 0]) w) := by
  have e18 : (10 : Nat) ^ 18 = 1000000000000000000 := by decide
  have ha := h1.lo
  have hb := h1.hi
  have hc := h2.lo
  have hd := h2.hi
  dsimp only at ha hb hc hd
  have HCA := Lib.hid (fun (w1 : World) (v : Value) (hb1 : Below w.heap.size w w1) (hv : Sl encP 2 w1 w1.heap.size v [(a, b), (c, d)]) => checkAll39 w1 (hw.later hb1) v [(a, b), (c, d)] hv (by intro p hp; simp at hp; rcases hp with rfl | rfl <;> assumption))
  have HOA := Lib.hid (fun (w1 : World) (hb1 : Below w.heap.size w w1) => of41 w1 (hw.later hb1) a b ha hb)
  have HOB := Lib.hid (fun (w1 : World) (hb1 : Below w.heap.size w w1) => of41 w1 (hw.later hb1) c d hc hd)
  have HLO := Lib.hid (fun (w1 : World) => ssub44 w1 a d ⟨by omega, by omega⟩ hl)
  have HHI := Lib.hid (fun (w1 : World) => ssub44 w1 b c ⟨by omega, by omega⟩ hh)
  have HG := Lib.hid (fun (w1 : World) (hb1 : Below w.heap.size w w1) => giveSpan42 w1 (hw.later hb1) (a - d) (b - c) hl hh)
  have HLT := Lib.hid (fun (w1 : World) => Sl.lit (f := encP) (sz := 2) encP_len [(a, b), (c, d)] w1 #[.string (txz a), .string (txz b), .string (txz c), .string (txz d)] 39 2 rfl rfl (by simp))
  generalize txz a = XA at *
  generalize txz b = XB at *
  generalize txz c = XC at *
  generalize txz d = XD at *
  generalize txz (a - d) = XL at *
  generalize txz (b - c) = XH at *
  generalize a - d = lo at *
  generalize b - c = hi at *
  clear ha hb hc hd e18 h1 h2 hl hh
  have HB_0 := Lib.hid ((Below.refl w.heap.size w).alloc (Nat.le_refl _) (.cells #[.string XA, .string XB] 39))
  have HB_1 := Lib.hid (HB_0.out.alloc HB_0.out.size (.cells #[.string XC, .string XD] 39))
  have HB := Lib.hid (HB_1.out.alloc HB_1.out.size (.cells #[.string ⟨#[]⟩, .string ⟨#[]⟩] 39))
  have HX := Lib.hid (((Box.new w #[.string XA, .string XB] 39).alloc (.cells #[.string XC, .string XD] 39)).alloc (.cells #[.string ⟨#[]⟩, .string ⟨#[]⟩] 39))
  have HY := Lib.hid ((Box.newAt (w.alloc (.cells #[.string XA, .string XB] 39)) #[.string XC, .string XD] 39 (n := w.heap.size + 1) (by simp)).alloc (.cells #[.string ⟨#[]⟩, .string ⟨#[]⟩] 39))
  have HZ := Lib.hid (Box.newAt ((w.alloc (.cells #[.string XA, .string XB] 39)).alloc (.cells #[.string XC, .string XD] 39)) #[.string ⟨#[]⟩, .string ⟨#[]⟩] 39 (n := w.heap.size + 1 + 1) (by simp))
  obtain ⟨x0, x1, xf, xz⟩ := HX.out.v2
  obtain ⟨y0, y1, yf, yz⟩ := HY.out.v2
  obtain ⟨z0, z1, zf, zz⟩ := HZ.out.v2
  clear HB_0 HB_1
  go_enter Tryz.func13, Tryz.ntmps13
  go_wp2_with fail
  have HB1 := Lib.hid (HB.out.alloc HB.out.size (.cells #[.string XA, .string XB, .string XC, .string XD] 39))
  have hl1 := HLT.out (((w.alloc (.cells #[.string XA, .string XB] 39)).alloc (.cells #[.string XC, .string XD] 39)).alloc (.cells #[.string ⟨#[]⟩, .string ⟨#[]⟩] 39))
  rw [show (((w.alloc (.cells #[.string XA, .string XB] 39)).alloc (.cells #[.string XC, .string XD] 39)).alloc (.cells #[.string ⟨#[]⟩, .string ⟨#[]⟩] 39)).heap.size = w.heap.size + 1 + 1 + 1 by simp] at hl1
  have HL1 := Lib.hid hl1
  have HX1 := Lib.hid (HX.out.alloc (.cells #[.string XA, .string XB, .string XC, .string XD] 39))
  have HY1 := Lib.hid (HY.out.alloc (.cells #[.string XA, .string XB, .string XC, .string XD] 39))
  have HZ1 := Lib.hid (HZ.out.alloc (.cells #[.string XA, .string XB, .string XC, .string XD] 39))
  clear hl1 HLT
  refine (HCA.out _ _ HB1.out HL1.out).mono ?_
  rintro e4 w4 ⟨rfl, hb⟩
  clear HX HY HZ HB x0 x1 xf xz y0 y1 yf yz z0 z1 zf zz
  have HX := Lib.hid (HX1.out.later hb)
  have HY := Lib.hid (HY1.out.later hb)
  have HZ := Lib.hid (HZ1.out.later hb)
  have HB := Lib.hid (HB1.out.trans (hb.mono HB1.out.size))
  clear hb HX1 HY1 HZ1 HB1 HL1
  obtain ⟨x0, x1, xf, xz⟩ := HX.out.v2
  obtain ⟨y0, y1, yf, yz⟩ := HY.out.v2
  obtain ⟨z0, z1, zf, zz⟩ := HZ.out.v2
  go_wp2_with fail
  clear x0 x1 xf xz y0 y1 yf yz
  refine wp_region_sep 6 (fun j => decide (4 ≤ j)) (SepR [.agg #[.string XA, .string XB], .agg #[.int .i64 a, .slice none 0 0, .int .i64 1, .slice none 0 0, .int .i64 b, .slice none 0 0, .int .i64 1, .slice none 0 0], .agg #[.string XC, .string XD], .agg #[.int .i64 c, .slice none 0 0, .int .i64 1, .slice none 0 0, .int .i64 d, .slice none 0 0, .int .i64 1, .slice none 0 0]] 85 #[.int .i64 0, .slice none 0 0, .int .i64 0, .slice none 0 0, .int .i64 0, .slice none 0 0, .int .i64 0, .slice none 0 0].toList w4.heap.size) (by kernel_rfl) (by kernel_rfl) (fun j v u u' h hb => h.later hb) ?_ ?_
  · refine ⟨?_, ?_, ?_, ?_, ?_, ?_, trivial⟩
    all_goals
      intro vs u hu hR
      simp only [putsN, List.take_succ_cons, List.take_zero, Act.put, List.setIfInBounds_toArray, List.set_cons_succ, List.set_cons_zero]
    · obtain ⟨x0, x1, xf, xz⟩ := (HX.out.later hu).v2
      clear hR hu
      go_wp2_with fail
      exact ⟨rfl, rfl, _, _, rfl, rfl, Below.refl _ _, rfl, fun h => absurd h (by decide)⟩
    · have e0 : vs 0 = .agg #[.string XA, .string XB] := hR 0 (by decide) (by kernel_rfl)
      have HS := Lib.hid (HOA.out u (HB.out.trans (hu.mono HB.out.size)))
      clear hR hu
      go_wp2_with fail
      refine HS.out.mono ?_
      rintro e11 w11 ⟨rfl, hb⟩
      go_wp2_with fail
      exact ⟨rfl, rfl, _, _, rfl, rfl, hb, rfl, fun h => absurd h (by decide)⟩
    · obtain ⟨y0, y1, yf, yz⟩ := (HY.out.later hu).v2
      clear hR hu
      go_wp2_with fail
      exact ⟨rfl, rfl, _, _, rfl, rfl, Below.refl _ _, rfl, fun h => absurd h (by decide)⟩
    · have e0 : vs 2 = .agg #[.string XC, .string XD] := hR 2 (by decide) (by kernel_rfl)
      have HS := Lib.hid (HOB.out u (HB.out.trans (hu.mono HB.out.size)))
      clear hR hu
      go_wp2_with fail
      refine HS.out.mono ?_
      rintro e11 w11 ⟨rfl, hb⟩
      go_wp2_with fail
      exact ⟨rfl, rfl, _, _, rfl, rfl, hb, rfl, fun h => absurd h (by decide)⟩
    · have hsz := hu.size
      clear hR hu
      go_wp2_with fail
      exact ⟨rfl, rfl, _, _, rfl, rfl, (Below.refl _ _).alloc (Nat.le_refl _) _, ⟨_, rfl, Box.new u #[.int .i64 0, .slice none 0 0, .int .i64 0, .slice none 0 0, .int .i64 0, .slice none 0 0, .int .i64 0, .slice none 0 0] 85, hsz⟩, fun _ => ⟨Nat.le_refl _, by simp [blk]⟩⟩
    · have hsz := hu.size
      clear hR hu
      go_wp2_with fail
      exact ⟨rfl, rfl, _, _, rfl, rfl, (Below.refl _ _).alloc (Nat.le_refl _) _, ⟨_, rfl, Box.new u #[.int .i64 0, .slice none 0 0, .int .i64 0, .slice none 0 0, .int .i64 0, .slice none 0 0, .int .i64 0, .slice none 0 0] 85, hsz⟩, fun _ => ⟨Nat.le_refl _, by simp [blk]⟩⟩
  · intro vs u hu hR hsep
    have e1 : vs 1 = .agg #[.int .i64 a, .slice none 0 0, .int .i64 1, .slice none 0 0, .int .i64 b, .slice none 0 0, .int .i64 1, .slice none 0 0] := hR 1 (by decide)
    have e3 : vs 3 = .agg #[.int .i64 c, .slice none 0 0, .int .i64 1, .slice none 0 0, .int .i64 d, .slice none 0 0, .int .i64 1, .slice none 0 0] := hR 3 (by decide)
    obtain ⟨g, e4, hbg, hlg⟩ := hR 4 (by decide)
    obtain ⟨k, e5, hbk, hlk⟩ := hR 5 (by decide)
    have hgk : g ≠ k := by have := hsep 4 5 (by decide) (by decide) (by decide) (by decide) (by decide); rw [e4, e5] at this; exact this
    have hwg : w.heap.size ≤ g := by have := HB.out.size; omega
    have hwk : w.heap.size ≤ k := by have := HB.out.size; omega
    have hzg : w.heap.size + 1 + 1 ≠ g ∧ w.heap.size + 1 + 1 ≠ k := by have := HZ.out.lt; omega
    obtain ⟨hzg, hzk⟩ := hzg
    simp only [putsN, List.drop_succ_cons, List.drop_zero, List.take_succ_cons, List.take_zero, Act.put, List.setIfInBounds_toArray, List.set_cons_succ, List.set_cons_zero, e1, e3, e4, e5]
    have HP := Lib.hid hbg
    have HQ := Lib.hid hbk
    replace HZ := Lib.hid (HZ.out.later hu)
    replace HB := Lib.hid (HB.out.trans (hu.mono HB.out.size))
    clear hbg hbk hR hu hsep e1 e3 e4 e5 hlg hlk HX HY HOA HOB HCA z0 z1 zf zz
    obtain ⟨p0, p1, p2, p3, p4, p5, p6, p7, pf, pz⟩ := HP.out.w8
    obtain ⟨q0, q1, q2, q3, q4, q5, q6, q7, qf, qz⟩ := HQ.out.w8
    obtain ⟨z0, z1, zf, zz⟩ := HZ.out.v2
    go_wp2_with fail
    have hF := ((((((((HP.out.set 0 (.int .i64 a)).set 1 (.slice none 0 0)).set 2 (.int .i64 1)).set 3 (.slice none 0 0)).set 4 (.int .i64 b)).set 5 (.slice none 0 0)).set 6 (.int .i64 1)).set 7 (.slice none 0 0))
    replace HB := Lib.hid ((((((((HB.out.setCell (p := ⟨g, 0, none⟩) (by first | exact Nat.le_refl _ | (dsimp only; omega)) (.int .i64 a)).setCell (p := ⟨g, 1, none⟩) (by first | exact Nat.le_refl _ | (dsimp only; omega)) (.slice none 0 0)).setCell (p := ⟨g, 2, none⟩) (by first | exact Nat.le_refl _ | (dsimp only; omega)) (.int .i64 1)).setCell (p := ⟨g, 3, none⟩) (by first | exact Nat.le_refl _ | (dsimp only; omega)) (.slice none 0 0)).setCell (p := ⟨g, 4, none⟩) (by first | exact Nat.le_refl _ | (dsimp only; omega)) (.int .i64 b)).setCell (p := ⟨g, 5, none⟩) (by first | exact Nat.le_refl _ | (dsimp only; omega)) (.slice none 0 0)).setCell (p := ⟨g, 6, none⟩) (by first | exact Nat.le_refl _ | (dsimp only; omega)) (.int .i64 1)).setCell (p := ⟨g, 7, none⟩) (by first | exact Nat.le_refl _ | (dsimp only; omega)) (.slice none 0 0))
    simp only [List.set_cons_succ, List.set_cons_zero] at hF
    replace HQ := Lib.hid ((((((((HQ.out.other (a := ⟨g, 0, none⟩) (.int .i64 a) (by dsimp only; omega)).other (a := ⟨g, 1, none⟩) (.slice none 0 0) (by dsimp only; omega)).other (a := ⟨g, 2, none⟩) (.int .i64 1) (by dsimp only; omega)).other (a := ⟨g, 3, none⟩) (.slice none 0 0) (by dsimp only; omega)).other (a := ⟨g, 4, none⟩) (.int .i64 b) (by dsimp only; omega)).other (a := ⟨g, 5, none⟩) (.slice none 0 0) (by dsimp only; omega)).other (a := ⟨g, 6, none⟩) (.int .i64 1) (by dsimp only; omega)).other (a := ⟨g, 7, none⟩) (.slice none 0 0) (by dsimp only; omega))
    replace HZ := Lib.hid ((((((((HZ.out.other (a := ⟨g, 0, none⟩) (.int .i64 a) (by dsimp only; omega)).other (a := ⟨g, 1, none⟩) (.slice none 0 0) (by dsimp only; omega)).other (a := ⟨g, 2, none⟩) (.int .i64 1) (by dsimp only; omega)).other (a := ⟨g, 3, none⟩) (.slice none 0 0) (by dsimp only; omega)).other (a := ⟨g, 4, none⟩) (.int .i64 b) (by dsimp only; omega)).other (a := ⟨g, 5, none⟩) (.slice none 0 0) (by dsimp only; omega)).other (a := ⟨g, 6, none⟩) (.int .i64 1) (by dsimp only; omega)).other (a := ⟨g, 7, none⟩) (.slice none 0 0) (by dsimp only; omega))
    clear HP p0 p1 p2 p3 p4 p5 p6 p7 pf pz
    clear q0 q1 q2 q3 q4 q5 q6 q7 qf qz
    clear z0 z1 zf zz
    generalize ((((((((u.setCell ⟨g, 0, none⟩ (.int .i64 a)).setCell ⟨g, 1, none⟩ (.slice none 0 0)).setCell ⟨g, 2, none⟩ (.int .i64 1)).setCell ⟨g, 3, none⟩ (.slice none 0 0)).setCell ⟨g, 4, none⟩ (.int .i64 b)).setCell ⟨g, 5, none⟩ (.slice none 0 0)).setCell ⟨g, 6, none⟩ (.int .i64 1)).setCell ⟨g, 7, none⟩ (.slice none 0 0)) = wF at *
    have HP := Lib.hid hF
    clear hF
    obtain ⟨p0, p1, p2, p3, p4, p5, p6, p7, pf, pz⟩ := HP.out.w8
    obtain ⟨q0, q1, q2, q3, q4, q5, q6, q7, qf, qz⟩ := HQ.out.w8
    obtain ⟨z0, z1, zf, zz⟩ := HZ.out.v2
    have hF := ((((((((HQ.out.set 0 (.int .i64 c)).set 1 (.slice none 0 0)).set 2 (.int .i64 1)).set 3 (.slice none 0 0)).set 4 (.int .i64 d)).set 5 (.slice none 0 0)).set 6 (.int .i64 1)).set 7 (.slice none 0 0))
    replace HB := Lib.hid ((((((((HB.out.setCell (p := ⟨k, 0, none⟩) (by first | exact Nat.le_refl _ | (dsimp only; omega)) (.int .i64 c)).setCell (p := ⟨k, 1, none⟩) (by first | exact Nat.le_refl _ | (dsimp only; omega)) (.slice none 0 0)).setCell (p := ⟨k, 2, none⟩) (by first | exact Nat.le_refl _ | (dsimp only; omega)) (.int .i64 1)).setCell (p := ⟨k, 3, none⟩) (by first | exact Nat.le_refl _ | (dsimp only; omega)) (.slice none 0 0)).setCell (p := ⟨k, 4, none⟩) (by first | exact Nat.le_refl _ | (dsimp only; omega)) (.int .i64 d)).setCell (p := ⟨k, 5, none⟩) (by first | exact Nat.le_refl _ | (dsimp only; omega)) (.slice none 0 0)).setCell (p := ⟨k, 6, none⟩) (by first | exact Nat.le_refl _ | (dsimp only; omega)) (.int .i64 1)).setCell (p := ⟨k, 7, none⟩) (by first | exact Nat.le_refl _ | (dsimp only; omega)) (.slice none 0 0))
    simp only [List.set_cons_succ, List.set_cons_zero] at hF
    replace HP := Lib.hid ((((((((HP.out.other (a := ⟨k, 0, none⟩) (.int .i64 c) (by dsimp only; omega)).other (a := ⟨k, 1, none⟩) (.slice none 0 0) (by dsimp only; omega)).other (a := ⟨k, 2, none⟩) (.int .i64 1) (by dsimp only; omega)).other (a := ⟨k, 3, none⟩) (.slice none 0 0) (by dsimp only; omega)).other (a := ⟨k, 4, none⟩) (.int .i64 d) (by dsimp only; omega)).other (a := ⟨k, 5, none⟩) (.slice none 0 0) (by dsimp only; omega)).other (a := ⟨k, 6, none⟩) (.int .i64 1) (by dsimp only; omega)).other (a := ⟨k, 7, none⟩) (.slice none 0 0) (by dsimp only; omega))
    replace HZ := Lib.hid ((((((((HZ.out.other (a := ⟨k, 0, none⟩) (.int .i64 c) (by dsimp only; omega)).other (a := ⟨k, 1, none⟩) (.slice none 0 0) (by dsimp only; omega)).other (a := ⟨k, 2, none⟩) (.int .i64 1) (by dsimp only; omega)).other (a := ⟨k, 3, none⟩) (.slice none 0 0) (by dsimp only; omega)).other (a := ⟨k, 4, none⟩) (.int .i64 d) (by dsimp only; omega)).other (a := ⟨k, 5, none⟩) (.slice none 0 0) (by dsimp only; omega)).other (a := ⟨k, 6, none⟩) (.int .i64 1) (by dsimp only; omega)).other (a := ⟨k, 7, none⟩) (.slice none 0 0) (by dsimp only; omega))
    clear HQ q0 q1 q2 q3 q4 q5 q6 q7 qf qz
    clear p0 p1 p2 p3 p4 p5 p6 p7 pf pz
    clear z0 z1 zf zz
    generalize ((((((((wF.setCell ⟨k, 0, none⟩ (.int .i64 c)).setCell ⟨k, 1, none⟩ (.slice none 0 0)).setCell ⟨k, 2, none⟩ (.int .i64 1)).setCell ⟨k, 3, none⟩ (.slice none 0 0)).setCell ⟨k, 4, none⟩ (.int .i64 d)).setCell ⟨k, 5, none⟩ (.slice none 0 0)).setCell ⟨k, 6, none⟩ (.int .i64 1)).setCell ⟨k, 7, none⟩ (.slice none 0 0)) = wF at *
    have HQ := Lib.hid hF
    clear hF
    obtain ⟨q0, q1, q2, q3, q4, q5, q6, q7, qf, qz⟩ := HQ.out.w8
    obtain ⟨p0, p1, p2, p3, p4, p5, p6, p7, pf, pz⟩ := HP.out.w8
    obtain ⟨z0, z1, zf, zz⟩ := HZ.out.v2
    have HGL := Lib.hid (fun X : Later _ => HG.out X.w (HB.out.trans (X.h.mono HB.out.size)))
    refine wp_region_head_later 13 (by kernel_rfl) (by kernel_rfl) ?_
    simp only [List.take_succ_cons, List.take_zero, List.drop_succ_cons, List.drop_zero]
    repeat go_big_quiet_step ((first | (go_at_call 44; first | with_reducible exact Calls.later (HLO.out _) | with_reducible exact Calls.later (HHI.out _)) | (go_at_call 42; exact Calls.later (HGL.out _))))
    refine wpQuiet_nil ?_
    rintro w7 ⟨⟨_, hb7⟩, rfl⟩
    replace HZ := Lib.hid (HZ.out.later hb7)
    replace HB := Lib.hid (HB.out.trans (hb7.mono HB.out.size))
    clear hb7 z0 z1 zf zz p0 p1 p2 p3 p4 p5 p6 p7 pf pz q0 q1 q2 q3 q4 q5 q6 q7 qf qz HP HQ
    obtain ⟨z0, z1, zf, zz⟩ := HZ.out.v2
    go_wp2_with fail
    refine bodyPost_ret (v := .tuple #[.agg #[.string XL, .string XH], .int .i64 0]) (by simp [results, Tryz.results13, go_sem, *]) rfl ?_
    refine Ret.mk rfl ?_
    repeat (first | with_reducible exact HB.out | with_reducible exact Below.refl _ _ | refine Below.setCell ?_ (by first | (dsimp only; omega) | (simp; done) | (simp; omega)) _ | refine Below.alloc ?_ (by first | omega | (simp; done) | (simp; omega)) _ | refine Below.drew ?_)
end Go.Proofs.YtflchbejjofppaaGreatDoor.Nu
