/- Lemmas on the way to the law TopChanges (part 23): Gj Gn Go Gp -/
import Derived.Test.YtflchbejjofppaaGreatDoorTopChangesP22
import Derived.Test.YtflchbejjofppaaGreatDoorTopChangesP19
set_option linter.unusedVariables false
set_option linter.unusedSimpArgs false

/- Walks: measure.CheckSpan, of, giveSpan at whole numbers. -/
namespace Go.Proofs.YtflchbejjofppaaGreatDoor.Nu
open Go Go.Proofs Go.RowKit Go.Proofs.YtflchbejjofppaaGreatDoor
def encT (z : Int) : List Value := [.string (txz z)]
theorem encT_len (z : Int) : (encT z).length = 1 := rfl
set_option maxRecDepth 100000 in
set_option maxHeartbeats 1000000 in
theorem checkAll63 (w : World) (hw : TbR w) (v : Value) (l : List Int) (hv : Sl encT 1 w w.heap.size v l) (hl : ∀ z ∈ l, z.natAbs < 10 ^ 18) : Calls Tryz.prog 63 #[.func (.func 64) #[] #[], v] w (Ret (.int .i64 0) w) := by
  have HC := Lib.hid (fun (w1 : World) (hb : Below w.heap.size w w1) (k : Nat) (hk : k < l.length) => check64 w1 (hw.later hb) l[k] (hl _ (List.getElem_mem hk)))
  obtain ⟨a, c, rfl, hlen, hA⟩ := hv
  have HA := Lib.hid hA
  obtain ⟨n, hn⟩ : ∃ n, l.length = n := ⟨_, rfl⟩
  have HN := Lib.hid hn
  rw [hn] at hlen ⊢
  clear hA hn hl hw
  go_enter Tryz.func63, Tryz.ntmps63
  go_wp2_with fail
  go_loopw [10] (fun i wr => ∃ k : Nat, k ≤ n ∧ i = .int .i64 k ∧ Below w.heap.size w wr) (fun i _ => n - (intOf i).toNat)
  case atStart => exact ⟨0, by omega, rfl, Below.refl _ _⟩
  case round =>
    obtain ⟨k, hk, rfl, hbe⟩ := hrel
    have HB := Lib.hid hbe
    by_cases hlt : k < n
    · have hkl : k < l.length := by rw [HN.out]; exact hlt
      obtain ⟨b, off, rfl, hbb, hcells⟩ := HA.out (by omega)
      have c0 := ((hcells k hkl).below hbe hbb).c1
      rw [Nat.mul_one] at c0
      have hbz : b < wr.heap.size := by have := hbe.size; omega
      have HC1 := Lib.hid (HC.out wr hbe k hkl)
      generalize txz l[k] = X at *
      clear hcells hbe
      go_wp2_with fail
      refine HC1.out.mono ?_
      rintro e4 w4 ⟨rfl, hb⟩
      replace HB := Lib.hid (HB.out.trans (hb.mono HB.out.size))
      clear hb
      go_wp2_with fail
      go_roundw
      case rel => exact ⟨k + 1, by omega, by go_num, HB.out⟩
      case measure => simp [intOf]; omega
    · go_wp2_with fail
      go_ret
      exact ⟨rfl, HB.out⟩
set_option maxRecDepth 100000 in
set_option maxHeartbeats 1000000 in
theorem of41 (w : World) (hw : TbR w) (a b : Int) (ha : a.natAbs < 10 ^ 18) (hb : b.natAbs < 10 ^ 18) : Calls Tryz.prog 41 #[.agg #[.string (txz a), .string (txz b)]] w (Ret (.agg #[.int .i64 a, .slice none 0 0, .int .i64 1, .slice none 0 0, .int .i64 b, .slice none 0 0, .int .i64 1, .slice none 0 0]) w) := by
  have HA := Lib.hid (fun (w1 : World) (hb : Below w.heap.size w w1) => sfrom65 w1 (hw.later hb) a ha)
  have HA2 := Lib.hid (fun (w1 : World) (hb1 : Below w.heap.size w w1) => sfrom65 w1 (hw.later hb1) b hb)
  generalize txz a = X at *
  generalize txz b = Y at *
  clear ha hb hw
  have HB_0 := Lib.hid ((Below.refl w.heap.size w).alloc (Nat.le_refl _) (.cells #[.string X, .string Y] 39))
  have HB := Lib.hid (HB_0.out.alloc HB_0.out.size (.cells #[.int .i64 0, .slice none 0 0, .int .i64 0, .slice none 0 0, .int .i64 0, .slice none 0 0, .int .i64 0, .slice none 0 0] 85))
  have HX := Lib.hid ((Box.new w #[.string X, .string Y] 39).alloc (.cells #[.int .i64 0, .slice none 0 0, .int .i64 0, .slice none 0 0, .int .i64 0, .slice none 0 0, .int .i64 0, .slice none 0 0] 85))
  have HZ := Lib.hid (Box.newAt (w.alloc (.cells #[.string X, .string Y] 39)) #[.int .i64 0, .slice none 0 0, .int .i64 0, .slice none 0 0, .int .i64 0, .slice none 0 0, .int .i64 0, .slice none 0 0] 85 (n := w.heap.size + 1) (by simp))
  obtain ⟨x0, x1, xf, xz⟩ := HX.out.v2
  obtain ⟨z0, z1, z2, z3, z4, z5, z6, z7, zf, zz⟩ := HZ.out.w8
  clear HB_0
  go_enter Tryz.func41, Tryz.ntmps41
  go_wp2_with fail
  have HAL := Lib.hid (fun X : Later _ => HA.out X.w (HB.out.trans (X.h.mono HB.out.size)))
  have HAL2 := Lib.hid (fun X : Later _ => HA2.out X.w (HB.out.trans (X.h.mono HB.out.size)))
  refine wp_region_head_later 7 (by kernel_rfl) (by kernel_rfl) ?_
  simp only [List.take_succ_cons, List.take_zero, List.drop_succ_cons, List.drop_zero]
  repeat go_big_quiet_step ((go_at_call 65; first | with_reducible exact Calls.later (HAL.out _) | with_reducible exact Calls.later (HAL2.out _)))
  refine wpQuiet_nil ?_
  rintro w2 ⟨⟨_, hb2⟩, rfl⟩
  replace HB := Lib.hid (HB.out.trans (hb2.mono HB.out.size))
  replace HZ := Lib.hid (HZ.out.later hb2)
  clear hb2 z0 z1 z2 z3 z4 z5 z6 z7 zf zz
  obtain ⟨z0, z1, z2, z3, z4, z5, z6, z7, zf, zz⟩ := HZ.out.w8
  go_wp2_with fail
  have hF := ((((((((HZ.out.set 0 (.int .i64 a)).set 1 (.slice none 0 0)).set 2 (.int .i64 1)).set 3 (.slice none 0 0)).set 4 (.int .i64 b)).set 5 (.slice none 0 0)).set 6 (.int .i64 1)).set 7 (.slice none 0 0))
  replace HB := Lib.hid ((((((((HB.out.setCell (p := ⟨w.heap.size + 1, 0, none⟩) (by first | exact Nat.le_refl _ | (dsimp only; omega)) (.int .i64 a)).setCell (p := ⟨w.heap.size + 1, 1, none⟩) (by first | exact Nat.le_refl _ | (dsimp only; omega)) (.slice none 0 0)).setCell (p := ⟨w.heap.size + 1, 2, none⟩) (by first | exact Nat.le_refl _ | (dsimp only; omega)) (.int .i64 1)).setCell (p := ⟨w.heap.size + 1, 3, none⟩) (by first | exact Nat.le_refl _ | (dsimp only; omega)) (.slice none 0 0)).setCell (p := ⟨w.heap.size + 1, 4, none⟩) (by first | exact Nat.le_refl _ | (dsimp only; omega)) (.int .i64 b)).setCell (p := ⟨w.heap.size + 1, 5, none⟩) (by first | exact Nat.le_refl _ | (dsimp only; omega)) (.slice none 0 0)).setCell (p := ⟨w.heap.size + 1, 6, none⟩) (by first | exact Nat.le_refl _ | (dsimp only; omega)) (.int .i64 1)).setCell (p := ⟨w.heap.size + 1, 7, none⟩) (by first | exact Nat.le_refl _ | (dsimp only; omega)) (.slice none 0 0))
  simp only [List.set_cons_succ, List.set_cons_zero] at hF
  clear HZ z0 z1 z2 z3 z4 z5 z6 z7 zf zz
  generalize ((((((((w2.setCell ⟨w.heap.size + 1, 0, none⟩ (.int .i64 a)).setCell ⟨w.heap.size + 1, 1, none⟩ (.slice none 0 0)).setCell ⟨w.heap.size + 1, 2, none⟩ (.int .i64 1)).setCell ⟨w.heap.size + 1, 3, none⟩ (.slice none 0 0)).setCell ⟨w.heap.size + 1, 4, none⟩ (.int .i64 b)).setCell ⟨w.heap.size + 1, 5, none⟩ (.slice none 0 0)).setCell ⟨w.heap.size + 1, 6, none⟩ (.int .i64 1)).setCell ⟨w.heap.size + 1, 7, none⟩ (.slice none 0 0)) = wF at *
  have HZ := Lib.hid hF
  clear hF
  obtain ⟨z0, z1, z2, z3, z4, z5, z6, z7, zf, zz⟩ := HZ.out.w8
  refine bodyPost_ret (v := .agg #[.int .i64 a, .slice none 0 0, .int .i64 1, .slice none 0 0, .int .i64 b, .slice none 0 0, .int .i64 1, .slice none 0 0]) (by simp [results, Tryz.results41, go_sem, *]) rfl ?_
  exact Ret.mk rfl HB.out
set_option maxRecDepth 100000 in
set_option maxHeartbeats 1000000 in
theorem giveSpan42 (w : World) (hw : TbR w) (a b : Int) (ha : Sm a) (hb : Sm b) : Calls Tryz.prog 42 #[.agg #[.int .i64 a, .slice none 0 0, .int .i64 1, .slice none 0 0], .agg #[.int .i64 b, .slice none 0 0, .int .i64 1, .slice none 0 0]] w (Ret (.tuple #[.agg #[.string (txz a), .string (txz b)], .int .i64 0]) w) := by
  have HL := Lib.hid (fun (w1 : World) => slarge66 w1 a ha)
  have HL2 := Lib.hid (fun (w1 : World) => slarge66 w1 b hb)
  have HT := Lib.hid (fun (w1 : World) (hb1 : Below w.heap.size w w1) => stext67 w1 (hw.later hb1) a ha)
  have HT2 := Lib.hid (fun (w1 : World) (hb1 : Below w.heap.size w w1) => stext67 w1 (hw.later hb1) b hb)
  generalize txz a = X at *
  generalize txz b = Y at *
  clear ha hb hw
  have HB_0 := Lib.hid ((Below.refl w.heap.size w).alloc (Nat.le_refl _) (.cells #[.int .i64 a, .slice none 0 0, .int .i64 1, .slice none 0 0] 83))
  have HB_1 := Lib.hid (HB_0.out.alloc HB_0.out.size (.cells #[.int .i64 b, .slice none 0 0, .int .i64 1, .slice none 0 0] 83))
  have HB := Lib.hid (HB_1.out.alloc HB_1.out.size (.cells #[.string ⟨#[]⟩, .string ⟨#[]⟩] 39))
  have HX := Lib.hid (((Box.new w #[.int .i64 a, .slice none 0 0, .int .i64 1, .slice none 0 0] 83).alloc (.cells #[.int .i64 b, .slice none 0 0, .int .i64 1, .slice none 0 0] 83)).alloc (.cells #[.string ⟨#[]⟩, .string ⟨#[]⟩] 39))
  have HY := Lib.hid ((Box.newAt (w.alloc (.cells #[.int .i64 a, .slice none 0 0, .int .i64 1, .slice none 0 0] 83)) #[.int .i64 b, .slice none 0 0, .int .i64 1, .slice none 0 0] 83 (n := w.heap.size + 1) (by simp)).alloc (.cells #[.string ⟨#[]⟩, .string ⟨#[]⟩] 39))
  have HZ := Lib.hid (Box.newAt ((w.alloc (.cells #[.int .i64 a, .slice none 0 0, .int .i64 1, .slice none 0 0] 83)).alloc (.cells #[.int .i64 b, .slice none 0 0, .int .i64 1, .slice none 0 0] 83)) #[.string ⟨#[]⟩, .string ⟨#[]⟩] 39 (n := w.heap.size + 1 + 1) (by simp))
  obtain ⟨x0, x1, x2, x3, xf, xz⟩ := HX.out.w4
  obtain ⟨y0, y1, y2, y3, yf, yz⟩ := HY.out.w4
  obtain ⟨z0, z1, zf, zz⟩ := HZ.out.v2
  clear HB_0 HB_1
  go_enter Tryz.func42, Tryz.ntmps42
  go_wp2_with fail
  refine (HL.out _).mono ?_
  rintro e4 w4 ⟨rfl, hb⟩
  replace HB := Lib.hid (HB.out.trans (hb.mono HB.out.size))
  replace HX := Lib.hid (HX.out.later hb)
  replace HY := Lib.hid (HY.out.later hb)
  replace HZ := Lib.hid (HZ.out.later hb)
  clear hb x0 x1 x2 x3 xf xz y0 y1 y2 y3 yf yz z0 z1 zf zz
  obtain ⟨x0, x1, x2, x3, xf, xz⟩ := HX.out.w4
  obtain ⟨y0, y1, y2, y3, yf, yz⟩ := HY.out.w4
  obtain ⟨z0, z1, zf, zz⟩ := HZ.out.v2
  go_wp2_with fail
  refine (HL2.out _).mono ?_
  rintro e5 w5 ⟨rfl, hb⟩
  replace HB := Lib.hid (HB.out.trans (hb.mono HB.out.size))
  replace HX := Lib.hid (HX.out.later hb)
  replace HY := Lib.hid (HY.out.later hb)
  replace HZ := Lib.hid (HZ.out.later hb)
  clear hb x0 x1 x2 x3 xf xz y0 y1 y2 y3 yf yz z0 z1 zf zz
  obtain ⟨x0, x1, x2, x3, xf, xz⟩ := HX.out.w4
  obtain ⟨y0, y1, y2, y3, yf, yz⟩ := HY.out.w4
  obtain ⟨z0, z1, zf, zz⟩ := HZ.out.v2
  go_wp2_with fail
  have HTL := Lib.hid (fun X : Later _ => HT.out X.w (HB.out.trans (X.h.mono HB.out.size)))
  have HTL2 := Lib.hid (fun X : Later _ => HT2.out X.w (HB.out.trans (X.h.mono HB.out.size)))
  refine wp_region_head_later 5 (by kernel_rfl) (by kernel_rfl) ?_
  simp only [List.take_succ_cons, List.take_zero, List.drop_succ_cons, List.drop_zero]
  go_big_quiet_step (fail)
  go_big_quiet_step ((go_at_call 67; exact Calls.later (HTL.out _)))
  go_big_quiet_step (fail)
  go_big_quiet_step ((go_at_call 67; exact Calls.later (HTL2.out _)))
  go_big_quiet_step (fail)
  refine wpQuiet_nil ?_
  rintro w2 ⟨⟨_, hb2⟩, rfl⟩
  replace HB := Lib.hid (HB.out.trans (hb2.mono HB.out.size))
  replace HZ := Lib.hid (HZ.out.later hb2)
  clear hb2 z0 z1 zf zz
  obtain ⟨z0, z1, zf, zz⟩ := HZ.out.v2
  go_wp2_with fail
  refine bodyPost_ret (v := .tuple #[.agg #[.string X, .string Y], .int .i64 0]) (by simp [results, Tryz.results42, go_sem, *]) rfl ?_
  refine Ret.mk rfl ?_
  repeat (first | exact HB.out | exact Below.refl _ _ | refine Below.setCell ?_ (by first | (dsimp only; omega) | (simp; done) | (simp; omega)) _ | refine Below.alloc ?_ (by first | omega | (simp; done) | (simp; omega)) _ | refine Below.drew ?_)
set_option maxRecDepth 100000 in
set_option maxHeartbeats 1000000 in
theorem checkSpan40 (w : World) (hw : TbR w) (a b : Int) (ha : a.natAbs < 10 ^ 18) (hb : b.natAbs < 10 ^ 18) (hab : a ≤ b) : Calls Tryz.prog 40 #[.agg #[.string (txz a), .string (txz b)]] w (Ret (.int .i64 0) w) := by
  have HCA := Lib.hid (fun (w1 : World) (v : Value) (hb1 : Below w.heap.size w w1) (hv : Sl encT 1 w1 w1.heap.size v [a, b]) => checkAll63 w1 (hw.later hb1) v [a, b] hv (by intro z hz; simp at hz; rcases hz with rfl | rfl <;> assumption))
  have HOF := Lib.hid (fun (w1 : World) (hb1 : Below w.heap.size w w1) => of41 w1 (hw.later hb1) a b ha hb)
  have e18 : (10 : Nat) ^ 18 = 1000000000000000000 := by decide
  have HCM := Lib.hid (fun (w1 : World) => scmp54 w1 a b ⟨by omega, by omega⟩ ⟨by omega, by omega⟩)
  have hcm : cmpZ a b ≤ 0 := by rcases cmpZ_cases a b with ⟨_, e⟩ | ⟨_, e⟩ | ⟨_, e⟩ <;> omega
  have d0 : decide (0 < cmpZ a b) = false := decide_eq_false (by omega)
  have HLT := Lib.hid (fun (w1 : World) => Sl.lit (f := encT) (sz := 1) encT_len [a, b] w1 #[.string (txz a), .string (txz b)] 37 2 rfl rfl (by simp))
  generalize cmpZ a b = c at *
  generalize txz a = X at *
  generalize txz b = Y at *
  clear ha hb hw hab e18 hcm
  have HB := Lib.hid ((Below.refl w.heap.size w).alloc (Nat.le_refl _) (.cells #[.string X, .string Y] 39))
  have HX := Lib.hid (Box.new w #[.string X, .string Y] 39)
  obtain ⟨x0, x1, xf, xz⟩ := HX.out.v2
  go_enter Tryz.func40, Tryz.ntmps40
  go_wp2_with fail
  have HB1 := Lib.hid (HB.out.alloc HB.out.size (.cells #[.string X, .string Y] 37))
  have hl1 := HLT.out (w.alloc (.cells #[.string X, .string Y] 39))
  rw [show (w.alloc (.cells #[.string X, .string Y] 39)).heap.size = w.heap.size + 1 by simp] at hl1
  have HL1 := Lib.hid hl1
  clear hl1
  have HX1 := Lib.hid (HX.out.alloc (.cells #[.string X, .string Y] 37))
  refine (HCA.out _ _ HB1.out HL1.out).mono ?_
  rintro e4 w4 ⟨rfl, hb⟩
  clear HX HB x0 x1 xf xz
  have HX := Lib.hid (HX1.out.later hb)
  have HB := Lib.hid (HB1.out.trans (hb.mono HB1.out.size))
  obtain ⟨x0, x1, xf, xz⟩ := HX.out.v2
  clear hb HX1 HB1 HL1
  go_wp2_with fail
  refine (HOF.out _ HB.out).mono ?_
  rintro e5 w5 ⟨rfl, hb⟩
  replace HB := Lib.hid (HB.out.trans (hb.mono HB.out.size))
  clear hb HX x0 x1 xf xz
  have HZ := Lib.hid (Box.new w5 #[.int .i64 a, .slice none 0 0, .int .i64 1, .slice none 0 0, .int .i64 b, .slice none 0 0, .int .i64 1, .slice none 0 0] 85)
  replace HB := Lib.hid (HB.out.alloc HB.out.size (.cells #[.int .i64 a, .slice none 0 0, .int .i64 1, .slice none 0 0, .int .i64 b, .slice none 0 0, .int .i64 1, .slice none 0 0] 85))
  obtain ⟨z0, z1, z2, z3, z4, z5, z6, z7, zf, zz⟩ := HZ.out.w8
  go_wp2_with fail
  refine (HCM.out _).mono ?_
  rintro e6 w6 ⟨rfl, hb⟩
  replace HB := Lib.hid (HB.out.trans (hb.mono HB.out.size))
  clear hb HZ z0 z1 z2 z3 z4 z5 z6 z7 zf zz
  go_wp2_with fail
  go_ret
  exact ⟨rfl, HB.out⟩
def encP (p : Int × Int) : List Value := [.string (txz p.1), .string (txz p.2)]
theorem encP_len (p : Int × Int) : (encP p).length = 2 := rfl
structure SpOk (p : Int × Int) : Prop where
  lo : p.1.natAbs < 10 ^ 18
  hi : p.2.natAbs < 10 ^ 18
  le : p.1 ≤ p.2
set_option maxRecDepth 100000 in
set_option maxHeartbeats 1000000 in
theorem checkAll39 (w : World) (hw : TbR w) (v : Value) (l : List (Int × Int)) (hv : Sl encP 2 w w.heap.size v l) (hl : ∀ p ∈ l, SpOk p) : Calls Tryz.prog 39 #[.func (.func 40) #[] #[], v] w (Ret (.int .i64 0) w) := by
  have HC := Lib.hid (fun (w1 : World) (hb : Below w.heap.size w w1) (k : Nat) (hk : k < l.length) => checkSpan40 w1 (hw.later hb) (l[k]).1 (l[k]).2 (hl _ (List.getElem_mem hk)).lo (hl _ (List.getElem_mem hk)).hi (hl _ (List.getElem_mem hk)).le)
  obtain ⟨a, c, rfl, hlen, hA⟩ := hv
  have HA := Lib.hid hA
  obtain ⟨n, hn⟩ : ∃ n, l.length = n := ⟨_, rfl⟩
  have HN := Lib.hid hn
  rw [hn] at hlen ⊢
  clear hA hn hl hw
  go_enter Tryz.func39, Tryz.ntmps39
  go_wp2_with fail
  go_loopw [10] (fun i wr => ∃ k : Nat, k ≤ n ∧ i = .int .i64 k ∧ Below w.heap.size w wr) (fun i _ => n - (intOf i).toNat)
  case atStart => exact ⟨0, by omega, rfl, Below.refl _ _⟩
  case round =>
    obtain ⟨k, hk, rfl, hbe⟩ := hrel
    have HB := Lib.hid hbe
    by_cases hlt : k < n
    · have hkl : k < l.length := by rw [HN.out]; exact hlt
      obtain ⟨b, off, rfl, hbb, hcells⟩ := HA.out (by omega)
      obtain ⟨c0, c1⟩ := ((hcells k hkl).below hbe hbb).c2
      have hbz : b < wr.heap.size := by have := hbe.size; omega
      have HC1 := Lib.hid (fun (w1 : World) (hb : Below wr.heap.size wr w1) => HC.out w1 (HB.out.trans (hb.mono HB.out.size)) k hkl)
      generalize txz (l[k]).1 = X at *
      generalize txz (l[k]).2 = Y at *
      have HZ := Lib.hid (Box.new wr #[.string X, .string Y] 39)
      have hba : Below wr.heap.size wr (wr.alloc (.cells #[.string X, .string Y] 39)) := (Below.refl _ _).alloc (Nat.le_refl _) _
      replace HB := Lib.hid (HB.out.trans (hba.mono HB.out.size))
      have HC2 := Lib.hid (HC1.out _ hba)
      obtain ⟨z0, z1, zf, zz⟩ := HZ.out.v2
      clear hcells hbe hba
      go_wp2_with fail
      refine HC2.out.mono ?_
      rintro e4 w4 ⟨rfl, hb⟩
      replace HB := Lib.hid (HB.out.trans (hb.mono HB.out.size))
      clear hb
      go_wp2_with fail
      go_roundw
      case rel => exact ⟨k + 1, by omega, by go_num, HB.out⟩
      case measure => simp [intOf]; omega
    · go_wp2_with fail
      go_ret
      exact ⟨rfl, HB.out⟩
end Go.Proofs.YtflchbejjofppaaGreatDoor.Nu
/- Walks: measure.checkSpans at whole numbers. -/
namespace Go.Proofs.YtflchbejjofppaaGreatDoor.Nu
open Go Go.Proofs Go.RowKit Go.Proofs.YtflchbejjofppaaGreatDoor
theorem encF_one (x : Int) : ∀ u ∈ encF x, u.oneCell' = true := by intro u hu; simp [encF] at hu; rcases hu with rfl | rfl | rfl | rfl <;> rfl
theorem infoF : (Tryz.prog.info? 83).map (fun i => (i.zero, i.size, i.bytes)) = some (some (.agg #[.int .i64 0, .slice none 0 0, .int .i64 0, .slice none 0 0]), 4, 64) := by kernel_rfl
def K51 (v1 v2 : Value) (q : Nat) (X Y : ByteArray) (a b : Int) (j : Nat) (v : Value) : Prop :=
  match j with
  | 0 => v = v1
  | 1 => v = .pointer (some ⟨q, 0, none⟩)
  | 2 => v = .string X
  | 3 => v = .agg #[.int .i64 a, .slice none 0 0, .int .i64 1, .slice none 0 0]
  | 6 => v = v2
  | 7 => v = .pointer (some ⟨q, 1, none⟩)
  | 8 => v = .string Y
  | 9 => v = .agg #[.int .i64 b, .slice none 0 0, .int .i64 1, .slice none 0 0]
  | _ => True
structure J51 (B : Nat) (w0 : World) (q : Nat) (X Y : ByteArray) (a b : Int) (v1 v2 : Value) (l1 l2 : List Int) (D : Nat → Bool) (vs : Nat → Value) (w : World) : Prop where
  two : TwoOwn encF 4 83 encF 4 83 B w0 q 39 [.string X, .string Y] (if D 5 then vs 5 else v1) (if D 5 then l1 ++ [a] else l1) (if D 11 then vs 11 else v2) (if D 11 then l2 ++ [b] else l2) w
  val : ∀ j, D j = true → K51 v1 v2 q X Y a b j (vs j)
  lit1 : D 4 = true → D 5 = false → LitAt w (if D 5 then vs 5 else v1) (if D 11 then vs 11 else v2) (vs 4) (encF a) 83
  lit2 : D 10 = true → D 11 = false → LitAt w (if D 5 then vs 5 else v1) (if D 11 then vs 11 else v2) (vs 10) (encF b) 83
section
variable {B : Nat} {w0 : World} {q : Nat} {X Y : ByteArray} {a b : Int} {v1 v2 : Value} {l1 l2 : List Int} {D : Nat → Bool} {vs : Nat → Value} {w w' : World}
theorem J51.vals (h : ∀ j, D j = true → K51 v1 v2 q X Y a b j (vs j)) (i : Nat) {v : Value} (hk : K51 v1 v2 q X Y a b i v) : ∀ j, setF D i true j = true → K51 v1 v2 q X Y a b j (setF vs i v j) := fun j hj => by
  by_cases hji : j = i
  · subst hji; rw [setF_same]; exact hk
  · rw [setF_ne _ _ hji] at hj ⊢; exact h j hj
theorem J51.quiet (h : J51 B w0 q X Y a b v1 v2 l1 l2 D vs w) (i : Nat) (h4 : i ≠ 4) (h5 : i ≠ 5) (h10 : i ≠ 10) (h11 : i ≠ 11) {v : Value} (hk : K51 v1 v2 q X Y a b i v) (hb : Below w.heap.size w w') : J51 B w0 q X Y a b v1 v2 l1 l2 (setF D i true) (setF vs i v) w' := by
  constructor
  · rw [setF_ne _ _ (Ne.symm h5), setF_ne _ _ (Ne.symm h5), setF_ne _ _ (Ne.symm h11), setF_ne _ _ (Ne.symm h11)]
    exact h.two.grow hb
  · exact J51.vals h.val i hk
  · rw [setF_ne _ _ (Ne.symm h5), setF_ne _ _ (Ne.symm h5), setF_ne _ _ (Ne.symm h11), setF_ne _ _ (Ne.symm h11), setF_ne _ _ (Ne.symm h4), setF_ne _ _ (Ne.symm h4)]
    exact fun k1 k2 => (h.lit1 k1 k2).grow hb
  · rw [setF_ne _ _ (Ne.symm h5), setF_ne _ _ (Ne.symm h5), setF_ne _ _ (Ne.symm h11), setF_ne _ _ (Ne.symm h11), setF_ne _ _ (Ne.symm h10), setF_ne _ _ (Ne.symm h10)]
    exact fun k1 k2 => (h.lit2 k1 k2).grow hb
theorem alloc_below (w : World) (o : Obj) : Below w.heap.size w (w.alloc o) := (Below.refl _ _).alloc (Nat.le_refl _) _
theorem J51.new4 (h : J51 B w0 q X Y a b v1 v2 l1 l2 D vs w) : J51 B w0 q X Y a b v1 v2 l1 l2 (setF D 4 true) (setF vs 4 (.slice (some ⟨w.heap.size, 0, none⟩) 1 1)) (w.alloc (.cells #[.int .i64 a, .slice none 0 0, .int .i64 1, .slice none 0 0] 83)) := by
  constructor
  · rw [setF_ne _ _ (by decide), setF_ne _ _ (by decide), setF_ne _ _ (by decide), setF_ne _ _ (by decide)]
    exact h.two.grow (alloc_below _ _)
  · exact J51.vals h.val 4 trivial
  · simp only [setF, Nat.reduceEqDiff, reduceIte]
    exact fun _ _ => LitAt.new h.two #[.int .i64 a, .slice none 0 0, .int .i64 1, .slice none 0 0] 83
  · rw [setF_ne _ _ (by decide), setF_ne _ _ (by decide), setF_ne _ _ (by decide), setF_ne _ _ (by decide), setF_ne _ _ (by decide), setF_ne _ _ (by decide)]
    exact fun k1 k2 => (h.lit2 k1 k2).grow (alloc_below _ _)
theorem J51.new10 (h : J51 B w0 q X Y a b v1 v2 l1 l2 D vs w) : J51 B w0 q X Y a b v1 v2 l1 l2 (setF D 10 true) (setF vs 10 (.slice (some ⟨w.heap.size, 0, none⟩) 1 1)) (w.alloc (.cells #[.int .i64 b, .slice none 0 0, .int .i64 1, .slice none 0 0] 83)) := by
  constructor
  · rw [setF_ne _ _ (by decide), setF_ne _ _ (by decide), setF_ne _ _ (by decide), setF_ne _ _ (by decide)]
    exact h.two.grow (alloc_below _ _)
  · exact J51.vals h.val 10 trivial
  · rw [setF_ne _ _ (by decide), setF_ne _ _ (by decide), setF_ne _ _ (by decide), setF_ne _ _ (by decide), setF_ne _ _ (by decide), setF_ne _ _ (by decide)]
    exact fun k1 k2 => (h.lit1 k1 k2).grow (alloc_below _ _)
  · simp only [setF, Nat.reduceEqDiff, reduceIte]
    exact fun _ _ => LitAt.new h.two #[.int .i64 b, .slice none 0 0, .int .i64 1, .slice none 0 0] 83
theorem J51.push5 (h : J51 B w0 q X Y a b v1 v2 l1 l2 D vs w) (hD : D 5 = false) {v : Value} (ho : Own encF 4 83 w' B v (l1 ++ [a])) (hg : w.grownBy w' v1.ownBlock) (hat : v.ownBlock = v1.ownBlock ∨ v.ownBlock = some w.heap.size) : J51 B w0 q X Y a b v1 v2 l1 l2 (setF D 5 true) (setF vs 5 v) w' := by
  have h2 := h.two
  have h3 := h.lit2
  rw [hD] at h2 h3
  constructor
  · rw [setF_same, setF_same, setF_ne _ _ (by decide), setF_ne _ _ (by decide)]
    exact h2.push1 ho hg hat
  · exact J51.vals h.val 5 trivial
  · rw [setF_same]; exact fun _ k => by cases k
  · rw [setF_same, setF_same, setF_ne _ _ (by decide), setF_ne _ _ (by decide), setF_ne _ _ (by decide), setF_ne _ _ (by decide)]
    exact fun k1 k2 => (h3 k1 k2).push1 hg hat
theorem J51.push11 (h : J51 B w0 q X Y a b v1 v2 l1 l2 D vs w) (hD : D 11 = false) {v : Value} (ho : Own encF 4 83 w' B v (l2 ++ [b])) (hg : w.grownBy w' v2.ownBlock) (hat : v.ownBlock = v2.ownBlock ∨ v.ownBlock = some w.heap.size) : J51 B w0 q X Y a b v1 v2 l1 l2 (setF D 11 true) (setF vs 11 v) w' := by
  have h2 := h.two
  have h3 := h.lit1
  rw [hD] at h2 h3
  constructor
  · rw [setF_same, setF_same, setF_ne _ _ (by decide), setF_ne _ _ (by decide)]
    exact (h2.swap.push1 ho hg hat).swap
  · exact J51.vals h.val 11 trivial
  · rw [setF_same, setF_same, setF_ne _ _ (by decide), setF_ne _ _ (by decide), setF_ne _ _ (by decide), setF_ne _ _ (by decide)]
    exact fun k1 k2 => ((h3 k1 k2).swap.push1 hg hat).swap
  · rw [setF_same]; exact fun _ k => by cases k
end
end Go.Proofs.YtflchbejjofppaaGreatDoor.Nu
/- Walks: measure.checkSpans at whole numbers. -/
namespace Go.Proofs.YtflchbejjofppaaGreatDoor.Nu
open Go Go.Proofs Go.RowKit Go.Proofs.YtflchbejjofppaaGreatDoor
def CsPost (w : World) (l : List (Int × Int)) (e : Ending) (w' : World) : Prop :=
  ∃ v1 v2, e = .returned (.tuple #[v1, v2, .int .i64 0]) ∧ Sl encF 4 w' w'.heap.size v1 (l.map (·.1)) ∧ Sl encF 4 w' w'.heap.size v2 (l.map (·.2)) ∧ Below w.heap.size w w'
set_option maxRecDepth 100000 in
set_option maxHeartbeats 4000000 in
theorem checkSpans51 (w : World) (hw : TbR w) (v : Value) (l : List (Int × Int)) (hv : Sl encP 2 w w.heap.size v l) (h0 : l ≠ []) (h256 : l.length ≤ 256) (hl : ∀ p ∈ l, SpOk p) : Calls Tryz.prog 51 #[v] w (CsPost w l) := by
  have HCA := Lib.hid (checkAll39 w hw v l hv hl)
  have HW := Lib.hid hw
  have hn0 : 0 < l.length := List.length_pos_iff.2 h0
  have HEL := Lib.hid (fun (k : Nat) (hk : k < l.length) => hl _ (List.getElem_mem hk))
  have HTK := Lib.hid (fun (k : Nat) (hk : k < l.length) => List.take_succ_eq_append_getElem hk)
  have HEN := Lib.hid (show l.take l.length = l from List.take_length)
  have HQ := Lib.hid (fun (e : Ending) (w' : World) => (Iff.rfl : CsPost w l e w' ↔ _))
  obtain ⟨Q, hQ⟩ : ∃ Q, CsPost w l = Q := ⟨_, rfl⟩
  rw [hQ]
  have HQ2 := Lib.hid hQ
  clear HQ hQ
  obtain ⟨a, c, rfl, hlen, hA⟩ := hv
  obtain ⟨n, hn⟩ : ∃ n, l.length = n := ⟨_, rfl⟩
  have HN := Lib.hid hn
  rw [hn] at hlen hn0 HEN h256 HCA ⊢
  obtain ⟨b, off, rfl, hbb, hcells⟩ := hA (by rw [hn]; exact hn0)
  have HCL := Lib.hid (fun (w1 : World) (hb : Below w.heap.size w w1) (k : Nat) (hk : k < l.length) => ((hcells k hk).below hb hbb).c2)
  clear hA hn hl h0 hcells hw
  go_enter Tryz.func51, Tryz.ntmps51
  have d0 : ((n : Int) == 0) = false := beq_eq_false_iff_ne.2 (by omega)
  have d1 : decide (256 < n) = false := decide_eq_false (by omega)
  have d2 : decide ((256 : Int) < (n : Int)) = false := decide_eq_false (by omega)
  go_wp2_with fail
  refine HCA.out.mono ?_
  rintro e4 w4 ⟨rfl, hb⟩
  have HB := Lib.hid hb
  clear hb HCA
  go_wp2_with fail
  go_loopw [2, 3, 21] (fun s1 s2 i wr => ∃ (k : Nat) (v1 v2 : Value), k ≤ n ∧ i = .int .i64 k ∧ v1 = s1 ∧ v2 = s2 ∧ Below w.heap.size w wr ∧ w.heap.size ≤ wr.heap.size ∧ Own encF 4 83 wr w.heap.size v1 ((l.take k).map (·.1)) ∧ Own encF 4 83 wr w.heap.size v2 ((l.take k).map (·.2)) ∧ ∀ g, v1.ownBlock = some g → v2.ownBlock ≠ some g) (fun _ _ i _ => n - (intOf i).toNat)
  case atStart => exact ⟨0, _, _, by omega, rfl, rfl, rfl, HB.out, HB.out.size, Own.nil _ _ _ _ _, Own.nil _ _ _ _ _, fun g h => by cases h⟩
  case round =>
    clear HB
    obtain ⟨k, v1, v2, hk, rfl, rfl, rfl, hbe, hsz, ho1, ho2, hsep⟩ := hrel
    by_cases hlt : k < n
    · have hkl : k < l.length := by rw [HN.out]; exact hlt
      obtain ⟨c0, c1⟩ := HCL.out wr hbe k hkl
      have hp := HEL.out k hkl
      have HT1 := Lib.hid (HTK.out k hkl)
      have hbr : b < wr.heap.size := by omega
      obtain ⟨x, hx⟩ : ∃ x, l[k] = x := ⟨_, rfl⟩
      rw [hx] at c0 c1 hp HT1
      obtain ⟨xa, xb⟩ := x
      dsimp only at c0 c1
      have HFA := Lib.hid (fun (w1 : World) (hb : Below w.heap.size w w1) => sfrom65 w1 (HW.out.later hb) xa hp.lo)
      have HFB := Lib.hid (fun (w1 : World) (hb : Below w.heap.size w w1) => sfrom65 w1 (HW.out.later hb) xb hp.hi)
      generalize txz xa = X at *
      generalize txz xb = Y at *
      have hbx := Box.new wr #[.string X, .string Y] 39
      have hba := alloc_below wr (.cells #[.string X, .string Y] 39)
      obtain ⟨y0, y1, yf, yz⟩ := hbx.v2
      have HTW := Lib.hid (show TwoOwn encF 4 83 encF 4 83 w.heap.size w wr.heap.size 39 [.string X, .string Y] v1 ((l.take k).map (·.1)) v2 ((l.take k).map (·.2)) (wr.alloc (.cells #[.string X, .string Y] 39)) from
        ⟨hbe.trans (hba.mono hsz), Nat.le_trans hsz hba.size, hbx, ho1.alloc _, ho2.alloc _, hsep, fun h => Nat.lt_irrefl _ (ho1.lt2 _ h), fun h => Nat.lt_irrefl _ (ho2.lt2 _ h)⟩)
      have HLN := Lib.hid (show ((l.take k).map (·.1)).length ≤ 1000000 ∧ ((l.take k).map (·.2)).length ≤ 1000000 by simp only [List.length_map, List.length_take]; omega)
      clear hx hp hbe ho1 ho2 hsep hba hbx
      go_wp2_with fail
      clear c0 c1 y0 y1 yf yz
      generalize wr.heap.size = q at *
      generalize wr.alloc (.cells #[.string X, .string Y] 39) = W at *
      refine wp_region_join 12 (J51 w.heap.size w q X Y xa xb v1 v2 ((l.take k).map (·.1)) ((l.take k).map (·.2))) (by kernel_rfl) (by kernel_rfl) ⟨?_, (fun j h => by cases h), (fun h => by cases h), (fun h => by cases h)⟩ ?_ ?_
      · simp only [Bool.false_eq_true, if_false]
        exact HTW.out.grow ⟨rfl, rfl, rfl, Nat.le_refl _, fun _ _ => rfl⟩
      · clear HTW
        refine ⟨?_, ?_, ?_, ?_, ?_, ?_, ?_, ?_, ?_, ?_, ?_, ?_, trivial⟩
        all_goals
          intro D vs u hD hdep hJ
          simp only [putsN, List.take_succ_cons, List.take_zero, Act.put, List.setIfInBounds_toArray, List.set_cons_succ, List.set_cons_zero]
        · refine ⟨fun v w' => v = v1 ∧ w' = u, ?_, ?_⟩
          · clear hD hdep hJ
            go_wp2_with fail
            exact ⟨rfl, rfl, _, _, rfl, rfl, rfl, rfl⟩
          · rintro v w' ⟨rfl, rfl⟩
            exact hJ.quiet 0 (by decide) (by decide) (by decide) (by decide) rfl (Below.refl _ _)
        · refine ⟨fun v w' => v = .pointer (some ⟨q, 0, none⟩) ∧ w' = u, ?_, ?_⟩
          · clear hD hdep hJ
            go_wp2_with fail
            exact ⟨rfl, rfl, _, _, rfl, rfl, rfl, rfl⟩
          · rintro v w' ⟨rfl, rfl⟩
            exact hJ.quiet 1 (by decide) (by decide) (by decide) (by decide) rfl (Below.refl _ _)
        · have e0 : vs 1 = .pointer (some ⟨q, 0, none⟩) := hJ.val 1 (hdep 1 (by decide) (by kernel_rfl))
          obtain ⟨y0, y1, yf, yz⟩ := hJ.two.box.v2
          refine ⟨fun v w' => v = .string X ∧ w' = u, ?_, ?_⟩
          · clear hD hdep hJ
            go_wp2_with fail
            exact ⟨rfl, rfl, _, _, rfl, rfl, rfl, rfl⟩
          · rintro v w' ⟨rfl, rfl⟩
            exact hJ.quiet 2 (by decide) (by decide) (by decide) (by decide) rfl (Below.refl _ _)
        · have e0 : vs 2 = .string X := hJ.val 2 (hdep 2 (by decide) (by kernel_rfl))
          have HS := Lib.hid (HFA.out u hJ.two.below)
          refine ⟨fun v w' => v = .agg #[.int .i64 xa, .slice none 0 0, .int .i64 1, .slice none 0 0] ∧ Below u.heap.size u w', ?_, ?_⟩
          · clear hD hdep hJ
            go_wp2_with fail
            refine HS.out.mono ?_
            rintro e11 w11 ⟨rfl, hb⟩
            go_wp2_with fail
            exact ⟨rfl, rfl, _, _, rfl, rfl, rfl, hb⟩
          · rintro v w' ⟨rfl, hb⟩
            exact hJ.quiet 3 (by decide) (by decide) (by decide) (by decide) rfl hb
        · have e0 : vs 3 = .agg #[.int .i64 xa, .slice none 0 0, .int .i64 1, .slice none 0 0] := hJ.val 3 (hdep 3 (by decide) (by kernel_rfl))
          refine ⟨fun v w' => v = .slice (some ⟨u.heap.size, 0, none⟩) 1 1 ∧ w' = u.alloc (.cells #[.int .i64 xa, .slice none 0 0, .int .i64 1, .slice none 0 0] 83), ?_, ?_⟩
          · clear hD hdep hJ
            go_wp2_with fail
            exact ⟨rfl, rfl, _, _, rfl, rfl, rfl, rfl⟩
          · rintro v w' ⟨rfl, rfl⟩
            exact hJ.new4
        · have e0 : vs 0 = v1 := hJ.val 0 (hdep 0 (by decide) (by kernel_rfl))
          obtain ⟨g, e4, hbg, _⟩ := hJ.lit1 (hdep 4 (by decide) (by kernel_rfl)) hD
          have ho := hJ.two.own1
          rw [hD] at ho
          simp only [Bool.false_eq_true, if_false] at ho
          have hbs := hJ.two.base
          refine ⟨fun v w' => Own encF 4 83 w' w.heap.size v (((l.take k).map (·.1)) ++ [xa]) ∧ u.grownBy w' v1.ownBlock ∧ (v.ownBlock = v1.ownBlock ∨ v.ownBlock = some u.heap.size), ?_, ?_⟩
          · have HO := Lib.hid ho
            have HG := Lib.hid hbg
            have HBS := Lib.hid hbs
            clear hD hdep hJ ho hbg hbs
            rw [e0, e4]
            refine wpList_pushAt encF 4 64 102 83 (.agg #[.int .i64 0, .slice none 0 0, .int .i64 0, .slice none 0 0]) Tryz.underlying102 infoF rfl (by decide) (by decide) encF_len encF_one (((l.take k).map (·.1))) xa w.heap.size u g #[.int .i64 xa, .slice none 0 0, .int .i64 1, .slice none 0 0] 83 HG.out rfl v1 HO.out HBS.out HLN.out.1 rfl _ _ rfl rfl rfl ?_
            intro v' w' ho' hg' hat'
            exact ⟨rfl, rfl, _, _, rfl, rfl, ho', hg', hat'⟩
          · rintro v w' ⟨h1, h2, h3⟩
            exact hJ.push5 hD h1 h2 h3
        · refine ⟨fun v w' => v = v2 ∧ w' = u, ?_, ?_⟩
          · clear hD hdep hJ
            go_wp2_with fail
            exact ⟨rfl, rfl, _, _, rfl, rfl, rfl, rfl⟩
          · rintro v w' ⟨rfl, rfl⟩
            exact hJ.quiet 6 (by decide) (by decide) (by decide) (by decide) rfl (Below.refl _ _)
        · refine ⟨fun v w' => v = .pointer (some ⟨q, 1, none⟩) ∧ w' = u, ?_, ?_⟩
          · clear hD hdep hJ
            go_wp2_with fail
            exact ⟨rfl, rfl, _, _, rfl, rfl, rfl, rfl⟩
          · rintro v w' ⟨rfl, rfl⟩
            exact hJ.quiet 7 (by decide) (by decide) (by decide) (by decide) rfl (Below.refl _ _)
        · have e0 : vs 7 = .pointer (some ⟨q, 1, none⟩) := hJ.val 7 (hdep 7 (by decide) (by kernel_rfl))
          obtain ⟨y0, y1, yf, yz⟩ := hJ.two.box.v2
          refine ⟨fun v w' => v = .string Y ∧ w' = u, ?_, ?_⟩
          · clear hD hdep hJ
            go_wp2_with fail
            exact ⟨rfl, rfl, _, _, rfl, rfl, rfl, rfl⟩
          · rintro v w' ⟨rfl, rfl⟩
            exact hJ.quiet 8 (by decide) (by decide) (by decide) (by decide) rfl (Below.refl _ _)
        · have e0 : vs 8 = .string Y := hJ.val 8 (hdep 8 (by decide) (by kernel_rfl))
          have HS := Lib.hid (HFB.out u hJ.two.below)
          refine ⟨fun v w' => v = .agg #[.int .i64 xb, .slice none 0 0, .int .i64 1, .slice none 0 0] ∧ Below u.heap.size u w', ?_, ?_⟩
          · clear hD hdep hJ
            go_wp2_with fail
            refine HS.out.mono ?_
            rintro e11 w11 ⟨rfl, hb⟩
            go_wp2_with fail
            exact ⟨rfl, rfl, _, _, rfl, rfl, rfl, hb⟩
          · rintro v w' ⟨rfl, hb⟩
            exact hJ.quiet 9 (by decide) (by decide) (by decide) (by decide) rfl hb
        · have e0 : vs 9 = .agg #[.int .i64 xb, .slice none 0 0, .int .i64 1, .slice none 0 0] := hJ.val 9 (hdep 9 (by decide) (by kernel_rfl))
          refine ⟨fun v w' => v = .slice (some ⟨u.heap.size, 0, none⟩) 1 1 ∧ w' = u.alloc (.cells #[.int .i64 xb, .slice none 0 0, .int .i64 1, .slice none 0 0] 83), ?_, ?_⟩
          · clear hD hdep hJ
            go_wp2_with fail
            exact ⟨rfl, rfl, _, _, rfl, rfl, rfl, rfl⟩
          · rintro v w' ⟨rfl, rfl⟩
            exact hJ.new10
        · have e0 : vs 6 = v2 := hJ.val 6 (hdep 6 (by decide) (by kernel_rfl))
          obtain ⟨g, e4, hbg, _⟩ := hJ.lit2 (hdep 10 (by decide) (by kernel_rfl)) hD
          have ho := hJ.two.own2
          rw [hD] at ho
          simp only [Bool.false_eq_true, if_false] at ho
          have hbs := hJ.two.base
          refine ⟨fun v w' => Own encF 4 83 w' w.heap.size v (((l.take k).map (·.2)) ++ [xb]) ∧ u.grownBy w' v2.ownBlock ∧ (v.ownBlock = v2.ownBlock ∨ v.ownBlock = some u.heap.size), ?_, ?_⟩
          · have HO := Lib.hid ho
            have HG := Lib.hid hbg
            have HBS := Lib.hid hbs
            clear hD hdep hJ ho hbg hbs
            rw [e0, e4]
            refine wpList_pushAt encF 4 64 102 83 (.agg #[.int .i64 0, .slice none 0 0, .int .i64 0, .slice none 0 0]) Tryz.underlying102 infoF rfl (by decide) (by decide) encF_len encF_one (((l.take k).map (·.2))) xb w.heap.size u g #[.int .i64 xb, .slice none 0 0, .int .i64 1, .slice none 0 0] 83 HG.out rfl v2 HO.out HBS.out HLN.out.2 rfl _ _ rfl rfl rfl ?_
            intro v' w' ho' hg' hat'
            exact ⟨rfl, rfl, _, _, rfl, rfl, ho', hg', hat'⟩
          · rintro v w' ⟨h1, h2, h3⟩
            exact hJ.push11 hD h1 h2 h3
      · clear HTW
        intro D vs u hD hJ
        have h2 := hJ.two
        have e5 := hD 5 (by decide)
        have e11 := hD 11 (by decide)
        rw [e5, e11] at h2
        simp only [if_true] at h2
        have H2 := Lib.hid h2
        simp only [putsN, List.drop_succ_cons, List.drop_zero, List.take_succ_cons, List.take_zero, Act.put, List.setIfInBounds_toArray, List.set_cons_succ, List.set_cons_zero]
        clear hD hJ h2 e5 e11
        obtain ⟨u1, hu1⟩ : ∃ u1, vs 5 = u1 := ⟨_, rfl⟩
        obtain ⟨u2, hu2⟩ : ∃ u2, vs 11 = u2 := ⟨_, rfl⟩
        rw [hu1, hu2] at H2
        simp only [hu1, hu2]
        clear hu1 hu2
        go_wp2_with fail
        go_roundw
        case rel => exact ⟨k + 1, u1, u2, by omega, by go_num, rfl, rfl, H2.out.below, H2.out.base, by rw [HT1.out, List.map_append]; exact H2.out.own1, by rw [HT1.out, List.map_append]; exact H2.out.own2, H2.out.sep⟩
        case measure => simp [intOf]; omega
    · obtain rfl : k = n := by omega
      have HB := Lib.hid hbe
      have HO1 := Lib.hid ho1
      have HO2 := Lib.hid ho2
      clear hbe ho1 ho2 hsep hsz
      go_wp2_with fail
      rw [← HQ2.out]
      refine bodyPost_ret (v := .tuple #[v1, v2, .int .i64 0]) (by simp [results, Tryz.results51, go_sem, *]) rfl ?_
      rw [HEN.out] at HO1 HO2
      exact ⟨_, _, rfl, Sl.of_owns encF_len (by rw [List.length_map, HN.out]; omega) HO1.out, Sl.of_owns encF_len (by rw [List.length_map, HN.out]; omega) HO2.out, HB.out⟩
end Go.Proofs.YtflchbejjofppaaGreatDoor.Nu
/- Walks: measure.Meet at whole numbers. -/
namespace Go.Proofs.YtflchbejjofppaaGreatDoor.Nu
open Go Go.Proofs Go.RowKit Go.Proofs.YtflchbejjofppaaGreatDoor
theorem SpOk.sm {p : Int × Int} (h : SpOk p) : Sm p.1 ∧ Sm p.2 := by
  have h1 := h.lo
  have h2 := h.hi
  have e18 : (10 : Nat) ^ 18 = 1000000000000000000 := by decide
  exact ⟨⟨by omega, by omega⟩, ⟨by omega, by omega⟩⟩
def meetV (l : List (Int × Int)) : Value :=
  if mxL (l.map (·.1)) ≤ mnL (l.map (·.2)) then .tuple #[.agg #[.string (txz (mxL (l.map (·.1)))), .string (txz (mnL (l.map (·.2))))], .int .i64 0] else .tuple #[.agg #[.string ⟨#[]⟩, .string ⟨#[]⟩], .int .i64 15]
set_option maxRecDepth 100000 in
set_option maxHeartbeats 4000000 in
theorem meet23 (w : World) (hw : TbR w) (v : Value) (l : List (Int × Int)) (hv : Sl encP 2 w w.heap.size v l) (h0 : l ≠ []) (h256 : l.length ≤ 256) (hl : ∀ p ∈ l, SpOk p) : Calls Tryz.prog 23 #[v] w (Ret (meetV l) w) := by
  have HCS := Lib.hid (fun (w1 : World) (hb : Below w.heap.size w w1) => checkSpans51 w1 (hw.later hb) v l (hv.later hb) h0 h256 hl)
  have hm0 : l.map (·.1) ≠ [] := by simpa using h0
  have hm1 : l.map (·.2) ≠ [] := by simpa using h0
  have hs0 : ∀ z ∈ l.map (·.1), Sm z := fun z hz => by obtain ⟨p, hp, rfl⟩ := List.mem_map.1 hz; exact (hl p hp).sm.1
  have hs1 : ∀ z ∈ l.map (·.2), Sm z := fun z hz => by obtain ⟨p, hp, rfl⟩ := List.mem_map.1 hz; exact (hl p hp).sm.2
  have HGR := Lib.hid (fun (w1 : World) (v1 : Value) (h : Sl encF 4 w1 w1.heap.size v1 (l.map (·.1))) => greatest52 w1 v1 _ h hm0 hs0)
  have HLE := Lib.hid (fun (w1 : World) (v1 : Value) (h : Sl encF 4 w1 w1.heap.size v1 (l.map (·.2))) => least53 w1 v1 _ h hm1 hs1)
  have hga := mxL_sm hm0 hs0
  have hgb := mnL_sm hm1 hs1
  unfold meetV
  obtain ⟨a, ha⟩ : ∃ a, mxL (l.map (·.1)) = a := ⟨_, rfl⟩
  obtain ⟨b, hb⟩ : ∃ b, mnL (l.map (·.2)) = b := ⟨_, rfl⟩
  rw [ha] at HGR hga ⊢
  rw [hb] at HLE hgb ⊢
  have HCM := Lib.hid (fun (w1 : World) => scmp54 w1 a b hga hgb)
  have HGV := Lib.hid (fun (w1 : World) (hb1 : Below w.heap.size w w1) => giveSpan42 w1 (hw.later hb1) a b hga hgb)
  have hway : (a ≤ b ∧ decide (0 < cmpZ a b) = false) ∨ (¬ a ≤ b ∧ decide (0 < cmpZ a b) = true) := by
    rcases cmpZ_cases a b with ⟨h, e⟩ | ⟨h, e⟩ | ⟨h, e⟩
    · exact .inl ⟨by omega, decide_eq_false (by omega)⟩
    · exact .inl ⟨by omega, decide_eq_false (by omega)⟩
    · exact .inr ⟨by omega, decide_eq_true (by omega)⟩
  obtain ⟨R, hR⟩ : ∃ R, (if a ≤ b then Value.tuple #[.agg #[.string (txz a), .string (txz b)], .int .i64 0] else .tuple #[.agg #[.string ⟨#[]⟩, .string ⟨#[]⟩], .int .i64 15]) = R := ⟨_, rfl⟩
  have HR := Lib.hid (show (a ≤ b → Value.tuple #[.agg #[.string (txz a), .string (txz b)], .int .i64 0] = R) ∧ (¬ a ≤ b → Value.tuple #[.agg #[.string ⟨#[]⟩, .string ⟨#[]⟩], .int .i64 15] = R) from ⟨fun h => by rw [← hR, if_pos h], fun h => by rw [← hR, if_neg h]⟩)
  rw [hR]
  generalize txz a = X at *
  generalize txz b = Y at *
  generalize cmpZ a b = c at *
  obtain ⟨a0, c0, rfl, _⟩ := hv
  obtain ⟨n, hn⟩ : ∃ n, l.length = n := ⟨_, rfl⟩
  rw [hn] at HCS ⊢
  clear hn
  clear hm0 hm1 hs0 hs1 hga hgb hl h0 h256 hw hR ha hb
  have HB := Lib.hid ((Below.refl w.heap.size w).alloc (Nat.le_refl _) (.cells #[.string ⟨#[]⟩, .string ⟨#[]⟩] 39))
  have HZ := Lib.hid (Box.new w #[.string ⟨#[]⟩, .string ⟨#[]⟩] 39)
  obtain ⟨z0, z1, zf, zz⟩ := HZ.out.v2
  go_enter Tryz.func23, Tryz.ntmps23
  go_wp2_with fail
  refine (HCS.out _ HB.out).mono ?_
  rintro e4 w4 ⟨v1, v2, rfl, hs1, hs2, hb⟩
  have HS1 := Lib.hid hs1
  have HS2 := Lib.hid hs2
  obtain ⟨q1, d1, rfl, _⟩ := hs1
  obtain ⟨q2, d2, rfl, _⟩ := hs2
  obtain ⟨n1, hn1⟩ : ∃ n, (l.map (·.1)).length = n := ⟨_, rfl⟩
  obtain ⟨n2, hn2⟩ : ∃ n, (l.map (·.2)).length = n := ⟨_, rfl⟩
  rw [hn1] at HS1 ⊢
  rw [hn2] at HS2 ⊢
  clear hn1 hn2
  replace HB := Lib.hid (HB.out.trans (hb.mono HB.out.size))
  replace HZ := Lib.hid (HZ.out.later hb)
  clear hb z0 z1 zf zz
  obtain ⟨z0, z1, zf, zz⟩ := HZ.out.v2
  go_wp2_with fail
  refine (HGR.out _ _ HS1.out).mono ?_
  rintro e5 w5 ⟨rfl, hb⟩
  have HS3 := Lib.hid (HS2.out.later hb)
  replace HB := Lib.hid (HB.out.trans (hb.mono HB.out.size))
  replace HZ := Lib.hid (HZ.out.later hb)
  clear hb z0 z1 zf zz
  obtain ⟨z0, z1, zf, zz⟩ := HZ.out.v2
  go_wp2_with fail
  refine (HLE.out _ _ HS3.out).mono ?_
  rintro e6 w6 ⟨rfl, hb⟩
  replace HB := Lib.hid (HB.out.trans (hb.mono HB.out.size))
  replace HZ := Lib.hid (HZ.out.later hb)
  clear hb z0 z1 zf zz
  obtain ⟨z0, z1, zf, zz⟩ := HZ.out.v2
  clear HS1 HS2 HS3
  have HP := Lib.hid ((Box.new w6 #[.int .i64 a, .slice none 0 0, .int .i64 1, .slice none 0 0] 83).alloc (.cells #[.int .i64 b, .slice none 0 0, .int .i64 1, .slice none 0 0] 83))
  have HO := Lib.hid (Box.newAt (w6.alloc (.cells #[.int .i64 a, .slice none 0 0, .int .i64 1, .slice none 0 0] 83)) #[.int .i64 b, .slice none 0 0, .int .i64 1, .slice none 0 0] 83 (n := w6.heap.size + 1) (by simp))
  have hba : Below w6.heap.size w6 ((w6.alloc (.cells #[.int .i64 a, .slice none 0 0, .int .i64 1, .slice none 0 0] 83)).alloc (.cells #[.int .i64 b, .slice none 0 0, .int .i64 1, .slice none 0 0] 83)) := (alloc_below _ _).alloc (by simp) _
  replace HB := Lib.hid (HB.out.trans (hba.mono HB.out.size))
  replace HZ := Lib.hid (HZ.out.later hba)
  clear hba z0 z1 zf zz
  obtain ⟨z0, z1, zf, zz⟩ := HZ.out.v2
  obtain ⟨p0, p1, p2, p3, pf, pz⟩ := HP.out.w4
  obtain ⟨o0, o1, o2, o3, of, oz⟩ := HO.out.w4
  go_wp2_with fail
  refine (HCM.out _).mono ?_
  rintro e7 w7 ⟨rfl, hb⟩
  have HP7 := Lib.hid (HP.out.later hb)
  have HO7 := Lib.hid (HO.out.later hb)
  clear p0 p1 p2 p3 pf pz o0 o1 o2 o3 of oz HP HO
  replace HB := Lib.hid (HB.out.trans (hb.mono HB.out.size))
  replace HZ := Lib.hid (HZ.out.later hb)
  clear hb z0 z1 zf zz
  obtain ⟨z0, z1, zf, zz⟩ := HZ.out.v2
  obtain ⟨p0, p1, p2, p3, pf, pz⟩ := HP7.out.w4
  obtain ⟨o0, o1, o2, o3, of, oz⟩ := HO7.out.w4
  rcases hway with ⟨hle, d0⟩ | ⟨hle, d0⟩
  · have HE := Lib.hid (HR.out.1 hle)
    clear hle HR
    go_wp2_with fail
    refine (HGV.out _ HB.out).mono ?_
    rintro e8 w8 ⟨rfl, hb⟩
    clear p0 p1 p2 p3 pf pz o0 o1 o2 o3 of oz HP7 HO7
    replace HB := Lib.hid (HB.out.trans (hb.mono HB.out.size))
    replace HZ := Lib.hid (HZ.out.later hb)
    clear hb z0 z1 zf zz
    obtain ⟨z0, z1, zf, zz⟩ := HZ.out.v2
    go_wp2_with fail
    refine bodyPost_ret (v := .tuple #[.agg #[.string X, .string Y], .int .i64 0]) (by simp [results, Tryz.results23, go_sem, *]) rfl ?_
    refine Ret.mk HE.out ?_
    repeat (first | exact HB.out | exact Below.refl _ _ | refine Below.setCell ?_ (by first | (dsimp only; omega) | (simp; done) | (simp; omega)) _ | refine Below.alloc ?_ (by first | omega | (simp; done) | (simp; omega)) _ | refine Below.drew ?_)
  · have HE := Lib.hid (HR.out.2 hle)
    clear hle HR
    go_wp2_with fail
    refine bodyPost_ret (v := .tuple #[.agg #[.string ⟨#[]⟩, .string ⟨#[]⟩], .int .i64 15]) (by simp [results, Tryz.results23, go_sem, *]) rfl ?_
    refine Ret.mk HE.out ?_
    repeat (first | exact HB.out | exact Below.refl _ _ | refine Below.setCell ?_ (by first | (dsimp only; omega) | (simp; done) | (simp; omega)) _ | refine Below.alloc ?_ (by first | omega | (simp; done) | (simp; omega)) _ | refine Below.drew ?_)
end Go.Proofs.YtflchbejjofppaaGreatDoor.Nu
