/- Lemmas on the way to the law TopOneGrain (part 15): Xg Xh Xi Xk -/
import Derived.Test.YtpafjhjpchdcdaaGreatDoorTopOneGrainP14
import Derived.Lib.AppendZeros
set_option linter.unusedVariables false
set_option linter.unusedSimpArgs false

/- Walks: bins of one cell: levels, steepness, CheckBin. -/
namespace Go.Proofs.YtpafjhjpchdcdaaGreatDoor.Nu
open Go Go.Proofs Go.RowKit Go.Proofs.YtpafjhjpchdcdaaGreatDoor
structure CeR (w : World) (v : Value) (l : List Ly) : Prop where
  ex : ∃ b o c a n k, v = .slice (some ⟨b, o, none⟩) 1 c ∧ 1 ≤ c ∧ b < w.heap.size ∧ w.cell? ⟨b, o, none⟩ = some (.slice a n k) ∧ LyR w (.slice a n k) l
theorem CeR.later {w w' : World} {v : Value} {l : List Ly} (h : CeR w v l) (hb : Below w.heap.size w w') : CeR w' v l := by
  obtain ⟨b, o, c, a, n, k, e, h0, h1, h2, h3⟩ := h.ex
  exact ⟨b, o, c, a, n, k, e, h0, Nat.lt_of_lt_of_le h1 hb.size, (hb.cell (p := ⟨b, o, none⟩) h1).trans h2, h3.later hb⟩
abbrev binV (R : Int) (cv : Value) : Value := .agg #[.string ⟨#[109, 97, 115, 115]⟩, .int .i64 0, .int .i64 R, .int .i64 0, cv]
abbrev binC (R : Int) (cv : Value) : Array Value := #[.string ⟨#[109, 97, 115, 115]⟩, .int .i64 0, .int .i64 R, .int .i64 0, cv]
theorem infoI2 : (Tryz.prog.info? 3).map (fun i => (i.zero, i.size, i.bytes)) = some (some (.int .i64 0), 1, 8) := by kernel_rfl
theorem encI_one (x : Int) : ∀ u ∈ encI x, u.oneCell' = true := by intro u hu; simp [encI] at hu; subst hu; rfl
def LevP (w : World) (z : Int) (e : Ending) (w' : World) : Prop := ∃ a c, e = .returned (.slice a 1 c) ∧ Sl encI 1 w' w'.heap.size (.slice a 1 c) [z] ∧ Below w.heap.size w w'
set_option maxRecDepth 100000 in
set_option maxHeartbeats 4000000 in
theorem levels29 (w : World) (R : Int) (cv : Value) (l : List Ly) (hc : CeR w cv l) (hl : l.length ≤ 64) : Calls Tryz.prog 29 #[binV R cv] w (LevP w (sumM l)) := by
  obtain ⟨b, o, c, a, n, k, rfl, hc0, hbz, hcell, hly⟩ := hc.ex
  have HT := Lib.hid (fun (w1 : World) (hb : Below w.heap.size w w1) => total25 w1 (.slice a n k) l (hly.later hb) hl)
  have HCE := Lib.hid hcell
  have HBZ := Lib.hid hbz
  obtain ⟨Q, hQ⟩ : ∃ Q, LevP w (sumM l) = Q := ⟨_, rfl⟩
  have HQ := Lib.hid (fun (a : Option Addr) (c : Nat) (w' : World) (h1 : Sl encI 1 w' w'.heap.size (.slice a 1 c) [sumM l]) (h2 : Below w.heap.size w w') => (show Q (.returned (.slice a 1 c)) w' from by rw [← hQ]; exact ⟨a, c, rfl, h1, h2⟩))
  rw [hQ]
  clear hc hly hcell hQ hbz
  obtain ⟨S, hS⟩ : ∃ S, sumM l = S := ⟨_, rfl⟩
  rw [hS] at HT HQ
  clear hS
  have HB := Lib.hid ((Below.refl w.heap.size w).alloc (Nat.le_refl _) (.cells #[.string ⟨#[109, 97, 115, 115]⟩, .int .i64 0, .int .i64 R, .int .i64 0, .slice (some ⟨b, o, none⟩) 1 c] 37))
  have HX := Lib.hid (Box.new w #[.string ⟨#[109, 97, 115, 115]⟩, .int .i64 0, .int .i64 R, .int .i64 0, .slice (some ⟨b, o, none⟩) 1 c] 37)
  obtain ⟨x0, x1, x2, x3, x4, xf, xz⟩ := HX.out.w5
  go_enter Tryz.func29, Tryz.ntmps29
  go_wp2_with fail
  go_loopw [3, 9] (fun vo i wr => Below w.heap.size w wr ∧ Box wr w.heap.size 37 (binC R (.slice (some ⟨b, o, none⟩) 1 c)).toList ∧ ((i = .int .i64 0 ∧ vo = .slice none 0 0) ∨ (i = .int .i64 1 ∧ ∃ g cap, vo = .slice (some ⟨g, 0, none⟩) 1 cap ∧ Sl encI 1 wr wr.heap.size vo [S]))) (fun _ i _ => 1 - (intOf i).toNat)
  case atStart => exact ⟨HB.out, HX.out, .inl ⟨rfl, rfl⟩⟩
  case round =>
    obtain ⟨hbe, hbx, hst⟩ := hrel
    clear HB HX x0 x1 x2 x3 x4 xf xz
    have HB := Lib.hid hbe
    have HX := Lib.hid hbx
    have c0 : wr.cell? ⟨b, o, none⟩ = some (.slice a n k) := (HB.out.cell (p := ⟨b, o, none⟩) HBZ.out).trans HCE.out
    have hbz : b < wr.heap.size := Nat.lt_of_lt_of_le HBZ.out HB.out.size
    obtain ⟨x0, x1, x2, x3, x4, xf, xz⟩ := HX.out.w5
    clear hbe hbx
    rcases hst with ⟨rfl, hvo⟩ | ⟨rfl, g, cap, rfl, hsl⟩
    · have HVO := Lib.hid hvo
      clear hvo
      go_wp2_with fail
      refine (HT.out _ HB.out).mono ?_
      rintro e4 w4 ⟨rfl, hb⟩
      have hb1 := HB.out.trans (hb.mono HB.out.size)
      have HBA := Lib.hid (hb1.alloc hb1.size (.cells #[.int .i64 S] 3))
      have HXA := Lib.hid ((HX.out.later hb).alloc (.cells #[.int .i64 S] 3))
      have HRH := Lib.hid (Box.new w4 #[.int .i64 S] 3)
      clear hb hb1 HB HX x0 x1 x2 x3 x4 xf xz c0 hbz
      go_wp2_with (at_builtin; (refine wpList_pushB encI 1 8 34 3 _ Tryz.underlying34 infoI2 rfl (by decide) (by decide) encI_len encI_one [] S w.heap.size _ _ _ _ HRH.out rfl _ (by rw [HVO.out]; exact Own.nil _ _ _ _ _) HBA.out.size (by simp) rfl _ _ rfl rfl rfl ?_); intro v' w' hown' hg')
      rw [HVO.out] at hg'
      have hbb := grown_none_below hg'
      have HB := Lib.hid (HBA.out.trans (hbb.mono HBA.out.size))
      have HX := Lib.hid (HXA.out.later hbb)
      obtain ⟨g, cap, e, hq1, hq2⟩ := hown'.form (by simp)
      have HSL := Lib.hid (show Sl encI 1 w' w'.heap.size v' [S] from Sl.of_owns encI_len (by simp) hown')
      have HE := Lib.hid (show v' = .slice (some ⟨g, 0, none⟩) 1 cap from e)
      clear hown' hg' hbb e hq1 hq2 HBA HXA HRH
      go_wp2_with fail
      go_roundw
      case rel => exact ⟨HB.out, HX.out, .inr ⟨rfl, g, cap, HE.out, HSL.out⟩⟩
      case measure => simp [intOf]
    · have HSL := Lib.hid hsl
      clear hsl
      go_wp2_with fail
      exact HQ.out _ _ _ HSL.out HB.out
set_option maxRecDepth 100000 in
set_option maxHeartbeats 1000000 in
theorem steep28 (w : World) (R : Int) (cv : Value) (hcv : ∃ a n k, cv = .slice a n k) (a : Option Addr) (c : Nat) : Calls Tryz.prog 28 #[binV R cv, .slice a 1 c] w (Ret (.int .i64 0) w) := by
  obtain ⟨a', n', k', rfl⟩ := hcv
  have HB := Lib.hid (alloc_below w (.cells (binC R (.slice a' n' k')) 37))
  go_enter Tryz.func28, Tryz.ntmps28
  go_wp2_with fail
  go_loopw [5] (fun i wr => i = .int .i64 1 ∧ Below w.heap.size w wr) (fun i _ => 1 - (intOf i).toNat)
  case atStart => exact ⟨rfl, HB.out⟩
  case round =>
    obtain ⟨rfl, hbe⟩ := hrel
    go_wp2_with fail
    go_ret
    exact ⟨rfl, hbe⟩
set_option maxRecDepth 100000 in
set_option maxHeartbeats 1000000 in
theorem out52 (w : World) (x : Int) (pb : Nat) (R : Int) (a : Option Addr) (c : Nat) (hx : Box w pb 37 (binC R (.slice a 1 c)).toList) : Calls Tryz.prog 52 (#[.int .i64 x] ++ #[.pointer (some ⟨pb, 0, none⟩)]) w (Ret (.bool (!(decide (0 ≤ x) && decide (x ≤ 0)))) w) := by
  obtain ⟨x0, x1, x2, x3, x4, xf, xz⟩ := hx.w5
  have HW := Lib.hid (within53 w x 0 0)
  obtain ⟨B, hB⟩ : ∃ B, (decide (0 ≤ x) && decide (x ≤ 0)) = B := ⟨_, rfl⟩
  rw [hB] at HW ⊢
  clear hx hB
  go_enter Tryz.func52, Tryz.ntmps52
  go_wp2_with fail
  refine HW.out.mono ?_
  rintro e4 w4 ⟨rfl, rfl⟩
  go_wp2_with fail
  go_ret
  exact ⟨rfl, Below.refl _ _⟩
def RelS (c : List Value) (j : Nat) (v : Value) (_ : World) : Prop :=
  match c[j]? with
  | some x => v = x
  | none => ∃ a k, v = .slice a 1 k
set_option maxRecDepth 100000 in
set_option maxHeartbeats 4000000 in
theorem checkBin51 (w : World) (hw : TbR w) (R : Int) (cv : Value) (l : List Ly) (hR1 : 1 ≤ R) (hR2 : R ≤ 999999999) (hc : CeR w cv l) (hl : l.length ≤ 64) (hm : mixB l = false) (hS : sumM l ≤ R) : Calls Tryz.prog 51 #[binV R cv] w (Ret (.int .i64 0) w) := by
  have HLV := Lib.hid (fun (w1 : World) (hb : Below w.heap.size w w1) => levels29 w1 R cv l (hc.later hb) hl)
  obtain ⟨b, o, c, a, n, k, rfl, hc0, hbz, hcell, hly⟩ := hc.ex
  have HSP := Lib.hid (fun (w1 : World) (a' : Option Addr) (c' : Nat) => steep28 w1 R (.slice (some ⟨b, o, none⟩) 1 c) ⟨_, _, _, rfl⟩ a' c')
  have HT := Lib.hid (fun (w1 : World) (hb : Below w.heap.size w w1) => total25 w1 (.slice a n k) l (hly.later hb) hl)
  have HCP := Lib.hid (fun (w1 : World) (hb : Below w.heap.size w w1) => checkParcel21 w1 (hw.later hb) (.slice a n k) l (hly.later hb) hl)
  have HGR := Lib.hid (fun (w1 : World) (hb : Below w.heap.size w w1) => (by
    have h := grains23 w1 (.slice a n k) l (hly.later hb).sl
    rwa [hm] at h : Calls Tryz.prog 23 #[.slice a n k] w1 (Ret (.int .i64 0) w1)))
  have HWN := Lib.hid (fun (w1 : World) (e : Int) => (when24 w1 false e : Calls Tryz.prog 24 #[.bool false, .int .i64 e] w1 fun x w' => x = .returned (.int .i64 0) ∧ w1 = w'))
  have HIN1 := Lib.hid (fun (w1 : World) => (by
    have h := within53 w1 R 1 999999999
    rwa [decide_eq_true hR1, decide_eq_true hR2] at h : Calls Tryz.prog 53 #[.int .i64 R, .int .i64 1, .int .i64 999999999] w1 fun x w' => x = .returned (.bool true) ∧ w1 = w'))
  have HIN2 := Lib.hid (fun (w1 : World) => (within53 w1 0 0 999999999 : Calls Tryz.prog 53 #[.int .i64 0, .int .i64 0, .int .i64 999999999] w1 fun x w' => x = .returned (.bool true) ∧ w1 = w'))
  have HFS := Lib.hid (fun (w1 : World) (n : Nat) (hn : n ≤ 10) (v : Value) (h : Sl encI 1 w1 w1.heap.size v (List.replicate n 0)) => (by
    have h1 := first19 w1 v (List.replicate n 0) h
    have h2 : firstE (List.replicate n 0) = 0 := by clear h1 h hn; induction n with | zero => rfl | succ n ih => simp [List.replicate_succ, firstE, ih]
    rwa [h2] at h1 : Calls Tryz.prog 19 #[v] w1 fun x w' => x = .returned (.int .i64 0) ∧ w1 = w'))
  have HCE := Lib.hid hcell
  have HBZ := Lib.hid hbz
  obtain ⟨S, hSS⟩ : ∃ S, sumM l = S := ⟨_, rfl⟩
  rw [hSS] at HT hS
  have d1 : decide (R < S) = false := decide_eq_false (by omega)
  clear hc hly hcell hbz hw hm hS hSS hR1 hR2
  have HB := Lib.hid ((Below.refl w.heap.size w).alloc (Nat.le_refl _) (.cells #[.string ⟨#[109, 97, 115, 115]⟩, .int .i64 0, .int .i64 R, .int .i64 0, .slice (some ⟨b, o, none⟩) 1 c] 37))
  have HX := Lib.hid (Box.new w #[.string ⟨#[109, 97, 115, 115]⟩, .int .i64 0, .int .i64 R, .int .i64 0, .slice (some ⟨b, o, none⟩) 1 c] 37)
  obtain ⟨x0, x1, x2, x3, x4, xf, xz⟩ := HX.out.w5
  go_enter Tryz.func51, Tryz.ntmps51
  go_wp2_with fail
  refine wp_region_head_later 34 (by kernel_rfl) (by kernel_rfl) ?_
  simp only [List.take_succ_cons, List.take_zero, List.drop_succ_cons, List.drop_zero]
  repeat go_big_quiet_step ((first | (go_at_call 24; exact Calls.later_same (HWN.out _ _)) | (go_at_call 53; first | with_reducible exact Calls.later_same (HIN1.out _) | with_reducible exact Calls.later_same (HIN2.out _))))
  refine wpQuiet_nil ?_
  rintro w2 ⟨⟨_, hb⟩, rfl⟩
  replace HB := Lib.hid (HB.out.trans (hb.mono HB.out.size))
  replace HX := Lib.hid (HX.out.later hb)
  clear hb x0 x1 x2 x3 x4 xf xz
  obtain ⟨x0, x1, x2, x3, x4, xf, xz⟩ := HX.out.w5
  go_wp2_with fail
  refine (HFS.out _ 4 (by omega) _ (Sl.lit (f := encI) (sz := 1) encI_len (List.replicate 4 0) w2 #[.int .i64 0, .int .i64 0, .int .i64 0, .int .i64 0] 30 4 rfl rfl (by simp))).mono ?_
  rintro e3 w3 ⟨rfl, rfl⟩
  have hba := alloc_below w2 (.cells #[.int .i64 0, .int .i64 0, .int .i64 0, .int .i64 0] 30)
  replace HB := Lib.hid (HB.out.trans (hba.mono HB.out.size))
  replace HX := Lib.hid (HX.out.later hba)
  clear hba x0 x1 x2 x3 x4 xf xz
  obtain ⟨x0, x1, x2, x3, x4, xf, xz⟩ := HX.out.w5
  go_wp2_with fail
  generalize w2.alloc (.cells #[.int .i64 0, .int .i64 0, .int .i64 0, .int .i64 0] 30) = w3 at *
  go_loopw [68] (fun i wr => Below w.heap.size w wr ∧ Box wr w.heap.size 37 (binC R (.slice (some ⟨b, o, none⟩) 1 c)).toList ∧ (i = .int .i64 0 ∨ i = .int .i64 1)) (fun i _ => 1 - (intOf i).toNat)
  case atStart => exact ⟨HB.out, HX.out, .inl rfl⟩
  case round =>
    obtain ⟨hbe, hbx, hst⟩ := hrel
    clear HB HX x0 x1 x2 x3 x4 xf xz
    have HB := Lib.hid hbe
    have HX := Lib.hid hbx
    have c0 : wr.cell? ⟨b, o, none⟩ = some (.slice a n k) := (HB.out.cell (p := ⟨b, o, none⟩) HBZ.out).trans HCE.out
    have hbz : b < wr.heap.size := Nat.lt_of_lt_of_le HBZ.out HB.out.size
    obtain ⟨x0, x1, x2, x3, x4, xf, xz⟩ := HX.out.w5
    clear hbe hbx
    rcases hst with rfl | rfl
    · go_wp2_with fail
      have HTL := Lib.hid (fun (X : Later wr) => HT.out X.w (HB.out.trans (X.h.mono HB.out.size)))
      have HCL := Lib.hid (fun (X : Later wr) => HCP.out X.w (HB.out.trans (X.h.mono HB.out.size)))
      have HGL := Lib.hid (fun (X : Later wr) => HGR.out X.w (HB.out.trans (X.h.mono HB.out.size)))
      refine wp_region_head_later 10 (by kernel_rfl) (by kernel_rfl) ?_
      simp only [List.take_succ_cons, List.take_zero, List.drop_succ_cons, List.drop_zero]
      repeat go_big_quiet_step ((first | (go_at_call 24; exact Calls.later_same (HWN.out _ _)) | (go_at_call 21; exact Calls.later (HCL.out _)) | (go_at_call 23; exact Calls.later (HGL.out _)) | (go_at_call 25; exact Calls.later (HTL.out _))))
      refine wpQuiet_nil ?_
      rintro w4 ⟨⟨_, hb⟩, rfl⟩
      clear HTL HCL HGL c0 hbz
      replace HB := Lib.hid (HB.out.trans (hb.mono HB.out.size))
      replace HX := Lib.hid (HX.out.later hb)
      clear hb x0 x1 x2 x3 x4 xf xz
      obtain ⟨x0, x1, x2, x3, x4, xf, xz⟩ := HX.out.w5
      go_wp2_with fail
      refine (HFS.out _ 3 (by omega) _ (Sl.lit (f := encI) (sz := 1) encI_len (List.replicate 3 0) w4 #[.int .i64 0, .int .i64 0, .int .i64 0] 30 3 rfl rfl (by simp))).mono ?_
      rintro e5 w5 ⟨rfl, rfl⟩
      have hba := alloc_below w4 (.cells #[.int .i64 0, .int .i64 0, .int .i64 0] 30)
      replace HB := Lib.hid (HB.out.trans (hba.mono HB.out.size))
      replace HX := Lib.hid (HX.out.later hba)
      clear hba x0 x1 x2 x3 x4 xf xz
      obtain ⟨x0, x1, x2, x3, x4, xf, xz⟩ := HX.out.w5
      go_wp2_with fail
      go_roundw
      case rel => exact ⟨HB.out, HX.out, .inr (by first | rfl | trivial)⟩
      case measure => simp [intOf]
    · go_wp2_with fail
      refine wp_region_rel 3 (RelS [binV R (.slice (some ⟨b, o, none⟩) 1 c), binV R (.slice (some ⟨b, o, none⟩) 1 c)]) (by kernel_rfl) (by kernel_rfl) (fun j v u u' h hb => h) ?_ ?_
      · refine ⟨?_, ?_, ?_, trivial⟩
        all_goals
          intro vs u hu hR
          simp only [putsN, List.take_succ_cons, List.take_zero, Act.put, List.setIfInBounds_toArray, List.set_cons_succ, List.set_cons_zero]
        · obtain ⟨x0, x1, x2, x3, x4, xf, xz⟩ := (HX.out.later hu).w5
          clear hR hu
          go_wp2_with fail
          exact ⟨rfl, rfl, _, _, rfl, rfl, Below.refl _ _, rfl⟩
        · obtain ⟨x0, x1, x2, x3, x4, xf, xz⟩ := (HX.out.later hu).w5
          clear hR hu
          go_wp2_with fail
          exact ⟨rfl, rfl, _, _, rfl, rfl, Below.refl _ _, rfl⟩
        · have e1 : vs 1 = binV R (.slice (some ⟨b, o, none⟩) 1 c) := hR 1 (by decide) (by kernel_rfl)
          have HS := Lib.hid (HLV.out u (HB.out.trans (hu.mono HB.out.size)))
          clear hR hu
          go_wp2_with fail
          refine HS.out.mono ?_
          rintro e11 w11 ⟨a11, c11, rfl, _, hb⟩
          go_wp2_with fail
          exact ⟨rfl, rfl, _, _, rfl, rfl, hb, ⟨_, _, rfl⟩⟩
      · intro vs u hu hR
        have e0 : vs 0 = binV R (.slice (some ⟨b, o, none⟩) 1 c) := hR 0 (by decide)
        obtain ⟨a2, c2, e2⟩ : ∃ a k, vs 2 = .slice a 1 k := hR 2 (by decide)
        replace HB := Lib.hid (HB.out.trans (hu.mono HB.out.size))
        simp only [putsN, List.drop_succ_cons, List.drop_zero, List.take_succ_cons, List.take_zero, Act.put, List.setIfInBounds_toArray, List.set_cons_succ, List.set_cons_zero, e0, e2]
        clear hR hu e0 e2 x0 x1 x2 x3 x4 xf xz c0 hbz HX
        go_wp2_with fail
        refine (HSP.out _ _ _).mono ?_
        rintro e6 w6 ⟨rfl, hb⟩
        replace HB := Lib.hid (HB.out.trans (hb.mono HB.out.size))
        clear hb
        go_wp2_with fail
        go_ret
        exact ⟨rfl, HB.out⟩
end Go.Proofs.YtpafjhjpchdcdaaGreatDoor.Nu
/- Walks: slices.Grow and slices.Concat at layers; the error of a cell's number. -/
namespace Go.Proofs.YtpafjhjpchdcdaaGreatDoor.Nu
open Go Go.Proofs Go.RowKit Go.Proofs.YtpafjhjpchdcdaaGreatDoor
def GrowL (w : World) (n : Nat) (e : Ending) (w' : World) : Prop := ∃ g cp, e = .returned (.slice (some ⟨g, 0, none⟩) 0 cp) ∧ w.heap.size ≤ g ∧ g < w'.heap.size ∧ n ≤ cp ∧ Own Ly.enc 3 49 w' w.heap.size (.slice (some ⟨g, 0, none⟩) 0 cp) [] ∧ Below w.heap.size w w'
set_option maxRecDepth 100000 in
set_option maxHeartbeats 1000000 in
theorem growL55 (w : World) (n : Nat) (hn : n ≤ 1000000) (hpos : 0 < n) : Calls Tryz.prog 55 #[.slice none 0 0, .int .i64 n] w (GrowL w n) := by
  obtain ⟨Q, hQ⟩ : ∃ Q, GrowL w n = Q := ⟨_, rfl⟩
  rw [hQ]
  have HQ := Lib.hid (fun (g cp : Nat) (w' : World) (h0 : w.heap.size ≤ g) (h1 : g < w'.heap.size) (h2 : n ≤ cp) (h3 : Own Ly.enc 3 49 w' w.heap.size (.slice (some ⟨g, 0, none⟩) 0 cp) []) (h4 : Below w.heap.size w w') => (show Q (.returned (.slice (some ⟨g, 0, none⟩) 0 cp)) w' from by rw [← hQ]; exact ⟨g, cp, rfl, h0, h1, h2, h3, h4⟩))
  clear hQ
  obtain ⟨i, hi, hz, hs, hby⟩ := info_parts infoLy
  have hr := fun ty => Lib.run_append_nil_zeros (P := Tryz.prog) w 50 3 ty 49 i (.agg #[.string ⟨#[]⟩, .int .i64 0, .slice none 0 0]) .i64 .i64 Tryz.underlying50 Tryz.underlying3 hi hz n hpos (by rw [hs]; decide) (by omega) (by rw [hby]; omega)
  have hge := grownCap_ge w n 0 49
  have hle := grownCap_le_maxLen w n 0 49 (by unfold maxLen; omega)
  obtain ⟨cp, hcp⟩ : ∃ c, grownCap w n 0 49 = c := ⟨_, rfl⟩
  rw [hcp] at hge hle
  simp only [hcp] at hr
  obtain ⟨cells, hcells⟩ : ∃ c, Builtin.zeroCells (Value.agg #[.string ⟨#[]⟩, .int .i64 0, .slice none 0 0]).cells n ++ Builtin.zeroCells (Value.agg #[.string ⟨#[]⟩, .int .i64 0, .slice none 0 0]).cells (cp - n) = c := ⟨_, rfl⟩
  have hcs : cells.size = cp * 3 := by
    rw [← hcells, Array.size_append, size_zeroCells, size_zeroCells]
    show n * 3 + (cp - n) * 3 = cp * 3
    omega
  rw [hcells] at hr
  have HR := Lib.hid hr
  have HOW := Lib.hid (show Own Ly.enc 3 49 (w.drew.alloc (.cells cells 49)) w.heap.size (.slice (some ⟨w.heap.size, 0, none⟩) 0 cp) [] from
    ⟨rfl, .inr ⟨w.heap.size, cp, cells, rfl, Nat.le_refl _, (by show (w.heap.push (.cells cells 49))[w.heap.size]? = _; simp), Nat.zero_le _, hle, hcs, rfl⟩⟩)
  have HBW := Lib.hid ((Below.refl w.heap.size w).drew.alloc (Nat.le_refl _) (.cells cells 49))
  have HSZ := Lib.hid (show w.heap.size < (w.drew.alloc (.cells cells 49)).heap.size from by show _ < (w.heap.push _).size; simp)
  have HGE := Lib.hid (show n ≤ cp from by omega)
  clear hr hcells hcs hi hz hs hby hcp
  have hd : decide ((0 : Int) < (n : Int)) = true := decide_eq_true (by omega)
  go_enter Tryz.func55, Tryz.ntmps55
  go_wp2_with (at_builtin; refine Lib.wpList_append_run _ rfl _ _ _ _ rfl _ _ rfl rfl _ _ (HR.out _) ?_)
  exact HQ.out _ _ _ (Nat.le_refl _) HSZ.out HGE.out HOW.out HBW.out
set_option maxRecDepth 100000 in
set_option maxHeartbeats 4000000 in
theorem concat22 (w : World) (p c0 : Nat) (a1 a2 : Option Addr) (k1 k2 : Nat) (l1 l2 : List Ly) (hp0 : w.cell? ⟨p, 0, none⟩ = some (.slice a1 l1.length k1)) (hp1 : w.cell? ⟨p, 1, none⟩ = some (.slice a2 l2.length k2)) (hpz : p < w.heap.size) (h1 : LyR w (.slice a1 l1.length k1) l1) (h2 : LyR w (.slice a2 l2.length k2) l2) (hl1 : l1.length ≤ 1) (hl2 : l2.length = 1) :
    Calls Tryz.prog 22 #[.slice (some ⟨p, 0, none⟩) 2 c0] w (fun e w' => ∃ v, e = .returned v ∧ Own Ly.enc 3 49 w' w.heap.size v (l1 ++ l2) ∧ Below w.heap.size w w') := by
  obtain ⟨Q, hQ⟩ : ∃ Q : Ending → World → Prop, (fun e w' => ∃ v, e = .returned v ∧ Own Ly.enc 3 49 w' w.heap.size v (l1 ++ l2) ∧ Below w.heap.size w w') = Q := ⟨_, rfl⟩
  rw [hQ]
  have HQ := Lib.hid (fun (v : Value) (w' : World) (h1 : Own Ly.enc 3 49 w' w.heap.size v (l1 ++ l2)) (h2 : Below w.heap.size w w') => (show Q (.returned v) w' from by rw [← hQ]; exact ⟨v, rfl, h1, h2⟩))
  have HP0 := Lib.hid hp0
  have HP1 := Lib.hid hp1
  have HL2 := Lib.hid hl2
  have HS1 := Lib.hid h1.sl
  have HS2 := Lib.hid h2.sl
  obtain ⟨n1, hn1⟩ : ∃ n, l1.length = n := ⟨_, rfl⟩
  have HN1 := Lib.hid hn1
  rw [hn1] at HP0 HS1 hl1
  rw [hl2] at HP1 HS2
  clear hQ hp0 hp1 h1 h2 hl2 hn1
  go_enter Tryz.func22, Tryz.ntmps22
  go_wp2_with fail
  go_loopw [11, 3] (fun j z wr => Below w.heap.size w wr ∧ ((j = .int .i64 0 ∧ z = .int .i64 0) ∨ (j = .int .i64 1 ∧ z = .int .i64 (n1 : Int)) ∨ (j = .int .i64 2 ∧ z = .int .i64 ((n1 : Int) + 1)))) (fun j _ _ => 2 - (intOf j).toNat)
  case atStart => exact ⟨Below.refl _ _, .inl ⟨rfl, rfl⟩⟩
  case round =>
    obtain ⟨hbe, hst⟩ := hrel
    have HB := Lib.hid hbe
    clear hbe
    have c0 := (HB.out.cell (p := ⟨p, 0, none⟩) hpz).trans HP0.out
    have c1 := (HB.out.cell (p := ⟨p, 1, none⟩) hpz).trans HP1.out
    have hbz : p < wr.heap.size := Nat.lt_of_lt_of_le hpz HB.out.size
    have e0 : decide ((n1 : Int) < 0) = false := decide_eq_false (by omega)
    have e1 : decide ((n1 : Int) + 1 < 0) = false := decide_eq_false (by omega)
    rcases hst with ⟨rfl, rfl⟩ | ⟨rfl, rfl⟩ | ⟨rfl, rfl⟩
    · go_wp2_with fail
      go_roundw
      case rel => exact ⟨HB.out, .inr (.inl ⟨by first | rfl | trivial, by first | rfl | trivial | go_num⟩)⟩
      case measure => simp [intOf]
    · go_wp2_with fail
      go_roundw
      case rel => exact ⟨HB.out, .inr (.inr ⟨by first | rfl | trivial, by first | rfl | trivial | go_num⟩)⟩
      case measure => simp [intOf]
    · have HGR := Lib.hid (growL55 wr (n1 + 1) (by omega) (by omega))
      rw [show ((n1 + 1 : Nat) : Int) = (n1 : Int) + 1 from by omega] at HGR
      clear c0 c1 hbz
      go_wp2_with fail
      refine (HGR.out).mono ?_
      rintro e w2 ⟨g, cp, rfl, hg1, hg2, hcp, ho2, hb⟩
      have HO2 := Lib.hid (ho2.lower HB.out.size)
      have HB2 := Lib.hid (HB.out.trans (hb.mono HB.out.size))
      clear ho2 hb hg1 hg2 hcp HGR HB
      generalize wr = U at *
      go_wp2_with fail
      go_loopw [27, 6] (fun j v wr => Below w.heap.size w wr ∧ ((j = .int .i64 0 ∧ v = .slice (some ⟨g, 0, none⟩) 0 cp ∧ Own Ly.enc 3 49 wr w.heap.size v []) ∨ (j = .int .i64 1 ∧ Own Ly.enc 3 49 wr w.heap.size v l1) ∨ (j = .int .i64 2 ∧ Own Ly.enc 3 49 wr w.heap.size v (l1 ++ l2)))) (fun j _ _ => 2 - (intOf j).toNat)
      case atStart => exact ⟨HB2.out, .inl ⟨rfl, rfl, HO2.out⟩⟩
      case round =>
        obtain ⟨hbe, hst⟩ := hrel
        have HB := Lib.hid hbe
        clear hbe HB2 HO2
        have c0 := (HB.out.cell (p := ⟨p, 0, none⟩) hpz).trans HP0.out
        have c1 := (HB.out.cell (p := ⟨p, 1, none⟩) hpz).trans HP1.out
        have hbz : p < wr.heap.size := Nat.lt_of_lt_of_le hpz HB.out.size
        rcases hst with ⟨rfl, rfl, ho⟩ | ⟨rfl, ho⟩ | ⟨rfl, ho⟩
        · have HO := Lib.hid ho
          clear ho
          rcases (show n1 = 0 ∨ n1 = 1 by omega) with h0 | h0
          · subst h0
            have HE := Lib.hid (show l1 = [] from List.length_eq_zero_iff.1 HN1.out)
            cases a1
            · go_wp2_with fail
              go_roundw
              case rel => exact ⟨HB.out, .inr (.inl ⟨by first | rfl | trivial, by rw [HE.out]; exact HO.out⟩)⟩
              case measure => simp [intOf]
            · go_wp2_with fail
              go_roundw
              case rel => exact ⟨HB.out, .inr (.inl ⟨by first | rfl | trivial, by rw [HE.out]; exact HO.out⟩)⟩
              case measure => simp [intOf]
          · have H0 := Lib.hid h0
            obtain ⟨V, hV⟩ : ∃ V, V = Value.slice (some ⟨g, 0, none⟩) 0 cp := ⟨_, rfl⟩
            rw [← hV] at HO ⊢
            have HV := Lib.hid hV
            clear hV
            obtain ⟨a3, k3, e5, _, hAx⟩ := id HS1.out
            injection e5 with e6 e7 e8
            obtain ⟨bx, ox, hax, hbx, hcx⟩ := hAx (by rw [HN1.out]; omega)
            rw [← e6] at hax
            subst hax
            obtain ⟨q3, hq3⟩ : ∃ q, (⟨bx, ox, none⟩ : Addr) = q := ⟨_, rfl⟩
            have HAT := Lib.hid (show ∀ i (h : i < l1.length), ∀ j u, (Ly.enc l1[i])[j]? = some u → wr.cell? (q3.add (i * 3 + j)) = some u from by
              intro i h j u hu
              subst hq3
              have h1 := ((hcx i h).below HB.out hbx) j u hu
              rw [Addr.add_lit, ← Nat.add_assoc]
              exact h1)
            rw [hq3] at c0
            clear h0 hcx hAx hq3 e6 e7 e8 hbx
            have HEQ := Lib.hid (show Value.slice (some q3) n1 k1 = .slice (some q3) l1.length k1 from by rw [HN1.out])
            have HLN := Lib.hid (show ([] : List Ly).length + l1.length ≤ 2000000000 from by rw [HN1.out, H0.out]; simp)
            go_wp2_with (at_builtin; refine wpList_cat Ly.enc 3 48 50 49 _ Tryz.underlying50 infoLy rfl (by decide) (by decide) Ly.enc_len Ly.enc_one [] l1 w.heap.size wr _ HO.out HB.out.size HLN.out q3 k1 HAT.out rfl _ _ rfl rfl HEQ.out ?_; intro v' w' hown' hg')
            have HBN := Lib.hid (HB.out.grown hg' HB.out.size fun j hj => Nat.le_of_not_lt fun h => HO.out.ne h hj.symm)
            have HON := Lib.hid (show Own Ly.enc 3 49 w' w.heap.size v' l1 from by simpa using hown')
            clear hown' hg'
            go_wp2_with fail
            have hV := HV.out
            subst hV
            go_roundw
            case rel => exact ⟨HBN.out, .inr (.inl ⟨by first | rfl | trivial, HON.out⟩)⟩
            case measure => simp [intOf]
        · have HO := Lib.hid ho
          clear ho
          obtain ⟨a3, k3, e5, _, hAx⟩ := id HS2.out
          injection e5 with e6 e7 e8
          obtain ⟨bx, ox, hax, hbx, hcx⟩ := hAx (by rw [HL2.out]; omega)
          rw [← e6] at hax
          subst hax
          obtain ⟨q3, hq3⟩ : ∃ q, (⟨bx, ox, none⟩ : Addr) = q := ⟨_, rfl⟩
          have HAT := Lib.hid (show ∀ i (h : i < l2.length), ∀ j u, (Ly.enc l2[i])[j]? = some u → wr.cell? (q3.add (i * 3 + j)) = some u from by
            intro i h j u hu
            subst hq3
            have h1 := ((hcx i h).below HB.out hbx) j u hu
            rw [Addr.add_lit, ← Nat.add_assoc]
            exact h1)
          rw [hq3] at c1
          clear hcx hAx hq3 e6 e7 e8 hbx
          have HEQ := Lib.hid (show Value.slice (some q3) 1 k2 = .slice (some q3) l2.length k2 from by rw [HL2.out])
          have HLN := Lib.hid (show l1.length + l2.length ≤ 2000000000 from by rw [HL2.out, HN1.out]; omega)
          go_wp2_with (at_builtin; refine wpList_cat Ly.enc 3 48 50 49 _ Tryz.underlying50 infoLy rfl (by decide) (by decide) Ly.enc_len Ly.enc_one l1 l2 w.heap.size wr _ HO.out HB.out.size HLN.out q3 k2 HAT.out rfl _ _ rfl rfl HEQ.out ?_; intro v' w' hown' hg')
          have HBN := Lib.hid (HB.out.grown hg' HB.out.size fun j hj => Nat.le_of_not_lt fun h => HO.out.ne h hj.symm)
          have HON := Lib.hid hown'
          clear hown' hg'
          go_wp2_with fail
          go_roundw
          case rel => exact ⟨HBN.out, .inr (.inr ⟨by first | rfl | trivial, HON.out⟩)⟩
          case measure => simp [intOf]
        · have HO := Lib.hid ho
          clear ho
          go_wp2_with fail
          exact HQ.out _ _ HO.out HB.out
end Go.Proofs.YtpafjhjpchdcdaaGreatDoor.Nu
/- Walks: a cell's number; a bin with other layers. -/
namespace Go.Proofs.YtpafjhjpchdcdaaGreatDoor.Nu
open Go Go.Proofs Go.RowKit Go.Proofs.YtpafjhjpchdcdaaGreatDoor
set_option maxRecDepth 100000 in
set_option maxHeartbeats 1000000 in
theorem cell20 (w : World) (hw : TbR w) (R : Int) (cv : Value) (l : List Ly) (hR1 : 1 ≤ R) (hR2 : R ≤ 999999999) (hc : CeR w cv l) (hl : l.length ≤ 64) (hm : mixB l = false) (hS : sumM l ≤ R) (v : Value) (hv : Sl encI 1 w w.heap.size v [0]) : Calls Tryz.prog 20 #[binV R cv, v] w (Ret (.int .i64 0) w) := by
  have HCB := Lib.hid (fun (w1 : World) (hb : Below w.heap.size w w1) => checkBin51 w1 (hw.later hb) R cv l hR1 hR2 (hc.later hb) hl hm hS)
  obtain ⟨b, o, c, a, n, k, rfl, hc0, hbz, hcell, hly⟩ := hc.ex
  have HCT := Lib.hid (fun (w1 : World) (hb : Below w.heap.size w w1) (pb : Nat) (hx : Box w1 pb 37 (binC R (.slice (some ⟨b, o, none⟩) 1 c)).toList) => (by
    have h := containsF111 v [0] 52 #[.pointer (some ⟨pb, 0, none⟩)] (fun x => !(decide (0 ≤ x) && decide (x ≤ 0))) w1 (enters_of Tryz.func52 (by kernel_rfl) rfl) (hv.later hb) (fun w' x hb' _ => out52 w' x pb R _ _ (hx.later hb'))
    rwa [show ([0] : List Int).any (fun x => !(decide (0 ≤ x) && decide (x ≤ 0))) = false from by decide] at h : Calls Tryz.prog 39 #[v, .func (.func 52) #[] #[.pointer (some ⟨pb, 0, none⟩)]] w1 (Ret (.bool false) w1)))
  have HWN := Lib.hid (fun (w1 : World) => (when24 w1 false 10 : Calls Tryz.prog 24 #[.bool false, .int .i64 10] w1 fun x w' => x = .returned (.int .i64 0) ∧ w1 = w'))
  obtain ⟨va, vn, vc, rfl⟩ : ∃ a n c, v = .slice a n c := by obtain ⟨a, c, e, _⟩ := hv; exact ⟨a, _, c, e⟩
  clear hc hly hcell hbz hw hm hS hR1 hR2 hv
  have HB := Lib.hid ((Below.refl w.heap.size w).alloc (Nat.le_refl _) (.cells #[.string ⟨#[109, 97, 115, 115]⟩, .int .i64 0, .int .i64 R, .int .i64 0, .slice (some ⟨b, o, none⟩) 1 c] 37))
  have HX := Lib.hid (Box.new w #[.string ⟨#[109, 97, 115, 115]⟩, .int .i64 0, .int .i64 R, .int .i64 0, .slice (some ⟨b, o, none⟩) 1 c] 37)
  obtain ⟨x0, x1, x2, x3, x4, xf, xz⟩ := HX.out.w5
  go_enter Tryz.func20, Tryz.ntmps20
  go_wp2_with fail
  refine (HCB.out _ HB.out).mono ?_
  rintro e4 w4 ⟨rfl, hb⟩
  replace HB := Lib.hid (HB.out.trans (hb.mono HB.out.size))
  replace HX := Lib.hid (HX.out.later hb)
  clear hb x0 x1 x2 x3 x4 xf xz
  obtain ⟨x0, x1, x2, x3, x4, xf, xz⟩ := HX.out.w5
  have HC2 := Lib.hid (HCT.out _ HB.out w.heap.size HX.out)
  go_wp2_with fail
  refine HC2.out.mono ?_
  rintro e5 w5 ⟨rfl, hb⟩
  replace HB := Lib.hid (HB.out.trans (hb.mono HB.out.size))
  clear hb
  go_wp2_with fail
  refine (HWN.out _).mono ?_
  rintro e6 w6 ⟨rfl, rfl⟩
  go_wp2_with fail
  go_ret
  exact ⟨rfl, HB.out⟩
def encC (v : Value) : List Value := [v]
theorem encC_len (v : Value) : (encC v).length = 1 := rfl
theorem infoC : (Tryz.prog.info? 50).map (fun i => (i.zero, i.size, i.bytes)) = some (some (.slice none 0 0), 1, 24) := by kernel_rfl
def WithP (w : World) (R : Int) (L : List Ly) (e : Ending) (w' : World) : Prop := ∃ cv, e = .returned (binV R cv) ∧ CeR w' cv L ∧ Below w.heap.size w w'
set_option maxRecDepth 100000 in
set_option maxHeartbeats 4000000 in
theorem with26 (w : World) (R : Int) (cv : Value) (l L : List Ly) (hc : CeR w cv l) (hl : l.length ≤ 64) (hm : mixB l = false) (a2 : Option Addr) (n2 k2 : Nat) (hL : LyR w (.slice a2 n2 k2) L) : Calls Tryz.prog 26 #[binV R cv, .int .i64 0, .slice a2 n2 k2] w (WithP w R L) := by
  obtain ⟨b, o, c, a, n, k, rfl, hc0, hbz, hcell, hly⟩ := hc.ex
  have HNO := Lib.hid (fun (w1 : World) (hb : Below w.heap.size w w1) => normal27 w1 (.slice a n k) l (hly.later hb) hl hm)
  obtain ⟨Q, hQ⟩ : ∃ Q, WithP w R L = Q := ⟨_, rfl⟩
  have HQ := Lib.hid (fun (g : Nat) (w' : World) (h0 : g < w'.heap.size) (h1 : w'.cell? ⟨g, 0, none⟩ = some (.slice a2 n2 k2)) (hb : Below w.heap.size w w') => (show Q (.returned (binV R (.slice (some ⟨g, 0, none⟩) 1 1))) w' from by
    rw [← hQ]
    exact ⟨_, rfl, ⟨⟨g, 0, 1, a2, n2, k2, rfl, Nat.le_refl _, h0, h1, hL.later hb⟩⟩, hb⟩))
  rw [hQ]
  have HCE := Lib.hid hcell
  have HBZ := Lib.hid hbz
  clear hc hly hcell hbz hm hQ hL
  have HB_0 := Lib.hid ((Below.refl w.heap.size w).alloc (Nat.le_refl _) (.cells #[.string ⟨#[109, 97, 115, 115]⟩, .int .i64 0, .int .i64 R, .int .i64 0, .slice (some ⟨b, o, none⟩) 1 c] 37))
  have HB := Lib.hid (HB_0.out.alloc HB_0.out.size (.cells #[.string ⟨#[]⟩, .int .i64 0, .int .i64 0, .int .i64 0, .slice none 0 0] 37))
  have HX := Lib.hid ((Box.new w #[.string ⟨#[109, 97, 115, 115]⟩, .int .i64 0, .int .i64 R, .int .i64 0, .slice (some ⟨b, o, none⟩) 1 c] 37).alloc (.cells #[.string ⟨#[]⟩, .int .i64 0, .int .i64 0, .int .i64 0, .slice none 0 0] 37))
  have HZ := Lib.hid (Box.newAt (w.alloc (.cells #[.string ⟨#[109, 97, 115, 115]⟩, .int .i64 0, .int .i64 R, .int .i64 0, .slice (some ⟨b, o, none⟩) 1 c] 37)) #[.string ⟨#[]⟩, .int .i64 0, .int .i64 0, .int .i64 0, .slice none 0 0] 37 (n := w.heap.size + 1) (by simp))
  obtain ⟨x0, x1, x2, x3, x4, xf, xz⟩ := HX.out.w5
  obtain ⟨z0, z1, z2, z3, z4, zf, zz⟩ := HZ.out.w5
  clear HB_0
  have HWS := Lib.hid (show (((w.alloc (.cells #[.string ⟨#[109, 97, 115, 115]⟩, .int .i64 0, .int .i64 R, .int .i64 0, .slice (some ⟨b, o, none⟩) 1 c] 37)).alloc (.cells #[.string ⟨#[]⟩, .int .i64 0, .int .i64 0, .int .i64 0, .slice none 0 0] 37)).heap.size = w.heap.size + 2) from by simp)
  go_enter Tryz.func26, Tryz.ntmps26
  go_wp2_with (at_make; refine wpList_mk1 encC (.slice none 0 0) (.slice none 0 0) rfl 35 50 24 Tryz.underlying35 infoC rfl (by decide) (w.heap.size + 2) _ 1 (by omega) (by rw [HWS.out]; exact Nat.le_refl _) rfl _ _ rfl .i64 .i64 rfl rfl ?_; intro w3 hown hgr; have hbg := grown_none_below hgr; have HX3 := Lib.hid (HX.out.later hbg); have HZ3 := Lib.hid (HZ.out.later hbg); have HB3 := Lib.hid (HB.out.trans (hbg.mono HB.out.size)); have HO := Lib.hid hown; obtain ⟨u0, u1, u2, u3, u4, uf, uz⟩ := HX3.out.w5; clear hown hgr hbg x0 x1 x2 x3 x4 xf xz z0 z1 z2 z3 z4 zf zz HX HZ HB)
  have HO2 := Lib.hid (show Own encC 1 50 w3 (w.heap.size + 2) (.slice (some ⟨w.heap.size + 1 + 1, 0, none⟩) 1 1) [.slice none 0 0] from by have h := HO.out; rw [HWS.out] at h; exact h)
  obtain ⟨g, hg⟩ : ∃ g, w.heap.size + 1 + 1 = g := ⟨_, rfl⟩
  rw [hg] at HO2 ⊢
  have HG := Lib.hid hg
  clear HO hg HWS u0 u1 u2 u3 u4 uf uz
  go_loopw [17] (fun i wr => Below w.heap.size w wr ∧ Box wr w.heap.size 37 (binC R (.slice (some ⟨b, o, none⟩) 1 c)).toList ∧ Box wr (w.heap.size + 1) 37 [.string ⟨#[]⟩, .int .i64 0, .int .i64 0, .int .i64 0, .slice none 0 0] ∧ (∃ xa xn xk, Own encC 1 50 wr g (.slice (some ⟨g, 0, none⟩) 1 1) [.slice xa xn xk]) ∧ (i = .int .i64 0 ∨ i = .int .i64 1)) (fun i _ => 1 - (intOf i).toNat)
  case atStart => exact ⟨HB3.out, HX3.out, HZ3.out, ⟨_, _, _, HO2.out⟩, .inl rfl⟩
  case round =>
    obtain ⟨hbe, hbx, hbzz, ⟨xa, xn, xk, ho⟩, hst⟩ := hrel
    clear HB3 HX3 HZ3 HO2
    have HB := Lib.hid hbe
    have HX := Lib.hid hbx
    have HZ := Lib.hid hbzz
    have HO := Lib.hid ho
    have c0 : wr.cell? ⟨b, o, none⟩ = some (.slice a n k) := (HB.out.cell (p := ⟨b, o, none⟩) HBZ.out).trans HCE.out
    have hbz : b < wr.heap.size := Nat.lt_of_lt_of_le HBZ.out HB.out.size
    obtain ⟨x0, x1, x2, x3, x4, xf, xz⟩ := HX.out.w5
    clear hbe hbx hbzz ho
    rcases hst with rfl | rfl
    · go_wp2_with fail
      refine (HNO.out _ HB.out).mono ?_
      rintro e4 w4 ⟨v', rfl, hb, hcase⟩
      obtain ⟨va, vn, vk, rfl⟩ : ∃ a n k, v' = .slice a n k := by
        rcases hcase with ⟨_, e⟩ | ⟨y, g', cap, b', c', _, e, _⟩
        · exact ⟨_, _, _, e⟩
        · exact ⟨_, _, _, e⟩
      clear hcase x0 x1 x2 x3 x4 xf xz c0 hbz
      replace HO := Lib.hid (HO.out.later hb)
      replace HX := Lib.hid (HX.out.later hb)
      replace HZ := Lib.hid (HZ.out.later hb)
      replace HB := Lib.hid (HB.out.trans (hb.mono HB.out.size))
      clear hb
      have o0 := (HO.out.atN rfl encC_len 0 (by simp)).c1
      simp only [Nat.zero_mul] at o0
      have oz := (own_lt HO.out (by simp)).2
      have of' := HO.out.frozenN rfl
      go_wp2_with fail
      go_roundw
      case rel =>
        have hg := HG.out
        exact ⟨HB.out.setCell (p := ⟨g, 0, none⟩) (by dsimp only; omega) _, HX.out.other _ (by dsimp only; omega), HZ.out.other _ (by dsimp only; omega), ⟨va, vn, vk, by simpa using HO.out.setN rfl encC_len 0 (by simp) 0 (by omega) (.slice va vn vk) (.slice va vn vk) rfl⟩, .inr (by first | rfl | trivial)⟩
      case measure => simp [intOf]
    · have o0 := (HO.out.atN rfl encC_len 0 (by simp)).c1
      simp only [Nat.zero_mul] at o0
      have oz := (own_lt HO.out (by simp)).2
      have of' := HO.out.frozenN rfl
      obtain ⟨z0, z1, z2, z3, z4, zf, zz⟩ := HZ.out.w5
      have hg := HG.out
      have q1 : (w.heap.size == g) = false := beq_eq_false_iff_ne.2 (by omega)
      go_wp2_with fail
      clear o0 oz of' z0 z1 z2 z3 z4 zf zz x0 x1 x2 x3 x4 xf xz c0 hbz q1
      have h0 : Own encC 1 50 (wr.setCell ⟨g, 0, none⟩ (.slice a2 n2 k2)) g (.slice (some ⟨g, 0, none⟩) 1 1) [.slice a2 n2 k2] := by simpa using HO.out.setN rfl encC_len 0 (by simp) 0 (by omega) (.slice a2 n2 k2) (.slice a2 n2 k2) rfl
      have h1 := h0.below (a := ⟨w.heap.size, 4, none⟩) (.slice (some ⟨g, 0, none⟩) 1 1) (by dsimp only; omega)
      have h2 := h1.below (a := ⟨w.heap.size + 1, 0, none⟩) (.string ⟨#[109, 97, 115, 115]⟩) (by dsimp only; omega)
      have h3 := h2.below (a := ⟨w.heap.size + 1, 1, none⟩) (.int .i64 0) (by dsimp only; omega)
      have h4 := h3.below (a := ⟨w.heap.size + 1, 2, none⟩) (.int .i64 R) (by dsimp only; omega)
      have h5 := h4.below (a := ⟨w.heap.size + 1, 3, none⟩) (.int .i64 0) (by dsimp only; omega)
      have h6 := h5.below (a := ⟨w.heap.size + 1, 4, none⟩) (.slice (some ⟨g, 0, none⟩) 1 1) (by dsimp only; omega)
      have hz := (((((((HZ.out.other (a := ⟨g, 0, none⟩) (.slice a2 n2 k2) (by dsimp only; omega)).other (a := ⟨w.heap.size, 4, none⟩) (.slice (some ⟨g, 0, none⟩) 1 1) (by dsimp only; omega)).set 0 (.string ⟨#[109, 97, 115, 115]⟩)).set 1 (.int .i64 0)).set 2 (.int .i64 R)).set 3 (.int .i64 0)).set 4 (.slice (some ⟨g, 0, none⟩) 1 1))
      simp only [List.set_cons_succ, List.set_cons_zero] at hz
      have hbf : Below w.heap.size w (((((((wr.setCell ⟨g, 0, none⟩ (.slice a2 n2 k2)).setCell ⟨w.heap.size, 4, none⟩ (.slice (some ⟨g, 0, none⟩) 1 1)).setCell ⟨w.heap.size + 1, 0, none⟩ (.string ⟨#[109, 97, 115, 115]⟩)).setCell ⟨w.heap.size + 1, 1, none⟩ (.int .i64 0)).setCell ⟨w.heap.size + 1, 2, none⟩ (.int .i64 R)).setCell ⟨w.heap.size + 1, 3, none⟩ (.int .i64 0)).setCell ⟨w.heap.size + 1, 4, none⟩ (.slice (some ⟨g, 0, none⟩) 1 1)) := by
        repeat (first | with_reducible exact HB.out | with_reducible exact Below.refl _ _ | refine Below.setCell ?_ (by first | (dsimp only; omega) | (simp; done) | (simp; omega)) _ | refine Below.alloc ?_ (by first | omega | (simp; done) | (simp; omega)) _ | refine Below.drew ?_)
      have HZF := Lib.hid hz
      have HOF := Lib.hid h6
      have HBF := Lib.hid hbf
      clear h0 h1 h2 h3 h4 h5 h6 hz hbf HO HX HZ HB HNO HCE
      generalize (((((((wr.setCell ⟨g, 0, none⟩ (.slice a2 n2 k2)).setCell ⟨w.heap.size, 4, none⟩ (.slice (some ⟨g, 0, none⟩) 1 1)).setCell ⟨w.heap.size + 1, 0, none⟩ (.string ⟨#[109, 97, 115, 115]⟩)).setCell ⟨w.heap.size + 1, 1, none⟩ (.int .i64 0)).setCell ⟨w.heap.size + 1, 2, none⟩ (.int .i64 R)).setCell ⟨w.heap.size + 1, 3, none⟩ (.int .i64 0)).setCell ⟨w.heap.size + 1, 4, none⟩ (.slice (some ⟨g, 0, none⟩) 1 1)) = WF at *
      obtain ⟨q0, q1, q2, q3, q4, qf, qz⟩ := HZF.out.w5
      refine bodyPost_ret (v := binV R (.slice (some ⟨g, 0, none⟩) 1 1)) (by simp [results, Tryz.results26, go_sem, q0, q1, q2, q3, q4, qf, qz]) rfl ?_
      exact HQ.out g _ (own_lt HOF.out (by simp)).2 (HOF.out.atN rfl encC_len 0 (by simp)).c1 HBF.out
end Go.Proofs.YtpafjhjpchdcdaaGreatDoor.Nu
/- A bin's cell lies apart from a new box. -/
namespace Go.Proofs.YtpafjhjpchdcdaaGreatDoor.Nu
open Go Go.Proofs Go.RowKit Go.Proofs.YtpafjhjpchdcdaaGreatDoor
theorem Kept.cell {S : Nat → Prop} {w w' : World} (h : Kept S w w') {b o : Nat} (hb : b < w.heap.size) (hS : ¬ S b) : w'.cell? ⟨b, o, none⟩ = w.cell? ⟨b, o, none⟩ := by
  unfold World.cell?
  simp only [h.block b hb hS]
theorem at_keeps {S : Nat → Prop} {w w' : World} {b o : Nat} {vs : List Value} (h : At w b o vs) (hk : Kept S w w') (hb : b < w.heap.size) (hS : ¬ S b) : At w' b o vs := fun j u hu => (Kept.cell hk hb hS).trans (h j u hu)
theorem box_apart {w : World} {g b o : Nat} {e : TypeId} {zs : List Value} {v : Value} (h : Box w g e zs) (hc : w.cell? ⟨b, o, none⟩ = some v) (hv : v ∉ zs) : ¬ b = g := fun e => by
  subst e
  have := (h.cell o).symm.trans hc
  exact hv (List.mem_of_getElem? this)
abbrev zeroB : List Value := [.string ⟨#[]⟩, .int .i64 0, .int .i64 0, .int .i64 0, .slice none 0 0]
theorem CeR.apart {w : World} {cv : Value} {x : Ly} {g : Nat} {e : TypeId} (h : CeR w cv [x]) (hB : Box w g e zeroB) {w' : World} (hk : Kept (fun k => k = g) w w') : CeR w' cv [x] := by
  obtain ⟨b, o, c, a, n, k, rfl, hc0, hbz, hcell, hly⟩ := h.ex
  have hsz := hk.size
  obtain ⟨a', c', e', hlen, hA⟩ := hly.sl
  injection e' with e1 e2 e3
  subst e1 e2 e3
  obtain ⟨b2, o2, ha, hb2, hcs⟩ := hA (by simp)
  have h0 := hcs 0 (by simp)
  have hok := hly.ok x (by simp)
  obtain ⟨b3, o3, c3, e3, z3, at3⟩ := (hly.sh x (by simp)).form
  have n1 : ¬ b = g := box_apart hB hcell (by simp)
  have n2 : ¬ b2 = g := box_apart hB (h0 1 _ rfl) (by have := hok.lo; simp; omega)
  have n3 : ¬ b3 = g := box_apart hB (at3 0 _ rfl) (by simp)
  refine ⟨b, o, c, _, _, _, rfl, hc0, by omega, (Kept.cell hk hbz n1).trans hcell, ⟨⟨_, _, rfl, hlen, fun _ => ⟨b2, o2, ha, by omega, fun i hi => ?_⟩⟩, hly.ok, fun y hy => ?_⟩⟩
  · exact at_keeps (hcs i hi) hk hb2 n2
  · obtain rfl : y = x := by simpa using hy
    have hsl := hly.sh y (by simp)
    obtain ⟨a4, c4, e4, hl4, hA4⟩ := hsl
    obtain ⟨b5, o5, ha5, hb5, hc5⟩ := hA4 (by decide)
    have n5 : ¬ b5 = g := box_apart hB (hc5 0 (by decide) 0 (.string ⟨#[97]⟩) rfl) (by simp)
    exact ⟨a4, c4, e4, hl4, fun _ => ⟨b5, o5, ha5, by omega, fun i hi => at_keeps (hc5 i hi) hk hb5 n5⟩⟩
def OneL (A : List Ly) (x : Ly) : Prop := ∃ y, A.head? = some y ∧ x.g = y.g ∧ x.m = sumM A
def RelF (R : Int) (A : List Ly) (c : List Value) (lo : Nat) (j : Nat) (v : Value) (u : World) : Prop :=
  match c[j]? with
  | some x => v = x
  | none => (j = 3 ∧ ∃ a n k x, v = .slice a n k ∧ LyR u v [x] ∧ OneL A x) ∨ (j = 4 ∧ ∃ cv x, v = binV R cv ∧ CeR u cv [x] ∧ OneL A x) ∨ (j = 5 ∧ ∃ g, v = .pointer (some ⟨g, 0, none⟩) ∧ Box u g 37 zeroB ∧ lo ≤ g)
theorem RelF.later {R : Int} {A : List Ly} {c : List Value} {lo j : Nat} {v : Value} {u u' : World} (h : RelF R A c lo j v u) (hb : Below u.heap.size u u') : RelF R A c lo j v u' := by
  unfold RelF at h ⊢
  split <;> rename_i e <;> rw [e] at h
  · exact h
  · rcases h with ⟨e1, a, n, k, x, e2, h1, h2⟩ | ⟨e1, cv, x, e2, h1, h2⟩ | ⟨e1, g, e2, h1, h2⟩
    · exact .inl ⟨e1, a, n, k, x, e2, h1.later hb, h2⟩
    · exact .inr (.inl ⟨e1, cv, x, e2, h1.later hb, h2⟩)
    · exact .inr (.inr ⟨e1, g, e2, h1.later hb, h2⟩)
theorem norm_one {w w' : World} {A : List Ly} {v : Value} (hne : A ≠ []) (hok : ∀ x ∈ A, LyP x) (hs : sumM A ≤ 10000) (h : NormP w A (.returned v) w') : ∃ a n k x, v = .slice a n k ∧ LyR w' v [x] ∧ OneL A x := by
  obtain ⟨v2, e, hb, h | ⟨y, g, cap, b, c, hy, e2, hg, hsl, hsh⟩⟩ := h
  · exact absurd h.1 hne
  · injection e with e
    subst e e2
    refine ⟨_, _, _, _, rfl, ⟨hsl, fun z hz => ?_, fun z hz => ?_⟩, ⟨y, hy, rfl, rfl⟩⟩
    · obtain rfl := List.mem_singleton.1 hz
      have hym : y ∈ A := List.mem_of_mem_head? hy
      refine ⟨(hok y hym).nm, ?_, hs⟩
      cases A with
      | nil => exact absurd rfl hne
      | cons z r =>
        have h1 := (hok z (by simp)).lo
        have h2 := sumM_bd (l := r) (fun x hx => hok x (by simp [hx]))
        simp only [sumM]
        omega
    · obtain rfl := List.mem_singleton.1 hz
      exact hsh.sh
end Go.Proofs.YtpafjhjpchdcdaaGreatDoor.Nu
