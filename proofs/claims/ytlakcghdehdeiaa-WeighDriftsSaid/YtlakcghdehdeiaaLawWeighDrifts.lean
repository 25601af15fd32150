/- The law WeighDrifts returns true for every input, and leaves its arguments as they were. No conditions. -/
import Derived.Test.YtlakcghdehdeiaaLib13
import Derived.Test.YtlakcghdehdeiaaLib14
set_option linter.unusedVariables false
set_option linter.unusedSimpArgs false

/- The law of drifts, walked. -/
namespace Go.Proofs.Ytlakcghdehdeiaa
open Go Go.Proofs Go.RowKit

/-- Too low or too high. -/
def offR (r : Rg) : Bool := decide (r.lo < -999999999) || decide (999999999 < r.hi)
theorem offR_ck {r : Rg} (h : r.lo ≤ r.hi) : offR r = decide (ckRange r ≠ 0) := by
  have := @ckRange_ok r
  rw [Bool.eq_iff_iff]
  simp only [offR, Bool.or_eq_true, decide_eq_true_eq]
  constructor
  · intro h1 h2
    have := this.1 h2
    omega
  · intro h1
    apply Classical.byContradiction
    intro h2
    exact h1 (this.2 (by omega))
theorem drift_le {s : List Int} {b a : Rg} (hb : b.lo ≤ b.hi) (ha : a.lo ≤ a.hi) (i : Nat) (hi : i < s.length) : (driftAt s b a i).lo ≤ (driftAt s b a i).hi := by
  simp only [driftAt]
  have hn : (0 : Int) < s.length + 1 := by omega
  have h1 : b.lo * ((s.length : Int) + 1 - (i + 1)) ≤ b.hi * ((s.length : Int) + 1 - (i + 1)) := Int.mul_le_mul_of_nonneg_right hb (by omega)
  have h2 : a.lo * ((i : Int) + 1) ≤ a.hi * (i + 1) := Int.mul_le_mul_of_nonneg_right ha (by omega)
  generalize b.lo * ((s.length : Int) + 1 - (i + 1)) = p1 at *
  generalize b.hi * ((s.length : Int) + 1 - (i + 1)) = p2 at *
  generalize a.lo * ((i : Int) + 1) = p3 at *
  generalize a.hi * ((i : Int) + 1) = p4 at *
  generalize s.getD i 0 * ((s.length : Int) + 1) = m at *
  generalize (s.length : Int) + 1 = n at *
  have e1 := Int.ediv_mul_le (m - (p2 + p4)) (Int.ne_of_gt hn)
  have e2 := Int.ediv_mul_le (p1 + p3 - m) (Int.ne_of_gt hn)
  generalize (m - (p2 + p4)) / n = x at *
  generalize (p1 + p3 - m) / n = y at *
  apply Classical.byContradiction
  intro hc
  have h3 : 0 < x + y := by omega
  have h4 : 0 < (x + y) * n := Int.mul_pos h3 hn
  rw [Int.add_mul] at h4
  omega
theorem drift_any {s : List Int} {b a : Rg} (hb : b.lo ≤ b.hi) (ha : a.lo ≤ a.hi) : (driftL s b a).any offR = (driftL s b a).any (fun r => ckRange r ≠ 0) := by
  have key : ∀ r ∈ driftL s b a, offR r = decide (ckRange r ≠ 0) := by
    intro r hr
    obtain ⟨i, hi, rfl⟩ := List.mem_map.1 hr
    exact offR_ck (drift_le hb ha i (List.mem_range.1 hi))
  rw [Bool.eq_iff_iff, List.any_eq_true, List.any_eq_true]
  constructor
  · rintro ⟨r, h1, h2⟩
    exact ⟨r, h1, by rw [key r h1] at h2; exact h2⟩
  · rintro ⟨r, h1, h2⟩
    exact ⟨r, h1, by rw [key r h1]; exact h2⟩
/-- What the law asks. -/
theorem drift_law (s : List Int) (b a : Rg) : let bad := firstNZ [ckShown s, ckRange b, ckRange a]
    (bad ≠ 0 → rangesP (driftR s b a) (driftE s b a) bad []) ∧
    (bad = 0 → s.length ≤ 256 ∧ (∀ n ∈ s, 0 ≤ n ∧ n ≤ 999999999) ∧ (-999999999 ≤ b.lo ∧ b.lo ≤ b.hi ∧ b.hi ≤ 999999999) ∧ (-999999999 ≤ a.lo ∧ a.lo ≤ a.hi ∧ a.hi ≤ 999999999) ∧
      rangesP (driftR s b a) (driftE s b a) (if (driftL s b a).any offR then 4 else 0) (driftL s b a)) := by
  intro bad
  have hb : bad = firstNZ [ckShown s, ckRange b, ckRange a] := rfl
  by_cases h0 : ckShown s = 0
  · have e1 : bad = firstNZ [ckRange b, ckRange a] := by rw [hb]; simp [firstNZ, h0]
    have hne : ¬ s.length = 0 := by intro h; simp [ckShown, h] at h0
    have h256 : ¬ 256 < s.length := by intro h; simp [ckShown, hne, h] at h0
    have hany : s.any badN = false := by
      simp only [ckShown, if_neg hne, if_neg h256, ckShownL_any] at h0
      cases h : s.any badN
      · rfl
      · rw [h] at h0; simp at h0
    have hs : ∀ n ∈ s, 0 ≤ n ∧ n ≤ 999999999 := by
      intro n hn
      have := List.any_eq_false.1 hany n hn
      simp [badN] at this
      exact ⟨this.1, this.2⟩
    constructor
    · intro hne2
      have e : driftE s b a = bad := by simp only [driftE, if_neg hne, if_neg h256, hany, ← e1, if_pos hne2, Bool.false_eq_true, if_false]
      unfold rangesP
      rw [if_pos hne2, driftR, e, if_neg hne2]
      exact ⟨rfl, rfl⟩
    · intro hz
      rw [e1] at hz
      obtain ⟨z1, z2⟩ := firstNZ_2.1 hz
      have r1 := ckRange_0 z1
      have r2 := ckRange_0 z2
      refine ⟨by omega, hs, r1, r2, ?_⟩
      have e : driftE s b a = if (driftL s b a).any (fun r => ckRange r ≠ 0) then 4 else 0 := by
        simp only [driftE, if_neg hne, if_neg h256, hany, hz, Bool.false_eq_true, if_false, ne_eq, not_true_eq_false]
      rw [drift_any r1.2.1 r2.2.1, ← e]
      unfold rangesP driftR
      by_cases h4 : driftE s b a = 0
      · rw [h4]; simp
      · simp [h4]
  · have e1 : bad = ckShown s := by rw [hb]; simp [firstNZ, h0]
    refine ⟨fun _ => ?_, fun h => absurd (e1.symm.trans h) h0⟩
    rw [e1]
    have e : driftE s b a = ckShown s := by
      unfold driftE ckShown at *
      by_cases g1 : s.length = 0
      · simp [g1]
      by_cases g2 : 256 < s.length
      · simp [g1, g2]
      rw [if_neg g1, if_neg g2] at h0 ⊢
      rw [if_neg g1, if_neg g2]
      rw [ckShownL_any] at h0 ⊢
      by_cases g3 : s.any badN = true
      · simp [g3]
      · simp [g3] at h0
    unfold rangesP
    rw [if_pos h0, driftR, e, if_neg h0]
    exact ⟨rfl, rfl⟩
end Go.Proofs.Ytlakcghdehdeiaa

/- The law of drifts, its walk. -/
namespace Go.Proofs.Ytlakcghdehdeiaa
open Go Go.Proofs Go.RowKit

set_option maxRecDepth 100000 in
set_option maxHeartbeats 1000000 in
theorem drifts3_big (a0 : Option Addr) (n c : Nat) (b a : Rg) (w : World) (hn : n ≤ 9223372036854775807) (hbig : 300 < n) :
    Calls Try.prog 3 #[.slice a0 n c, .agg #[.int .i64 b.lo, .int .i64 b.hi], .agg #[.int .i64 a.lo, .int .i64 a.hi]] w (Ret (.bool true) w) := by
  go_enter Try.func3, Try.ntmps3
  go_wp2_with fail
  refine (awake16 _).mono ?_
  rintro e w1 ⟨rfl, hb1⟩
  have HB1 := Lib.hid ((((Below.refl w.heap.size w).alloc (Nat.le_refl _) (.cells #[.int .i64 b.lo, .int .i64 b.hi] 24)).alloc (by simp) (.cells #[.int .i64 a.lo, .int .i64 a.hi] 24)).trans (hb1.mono (by simp; omega)))
  clear hb1
  go_wp2_with fail
  refine (awake16 _).mono ?_
  rintro e w2 ⟨rfl, hb2⟩
  have HB2 := Lib.hid (HB1.out.trans (hb2.mono HB1.out.size))
  clear hb2
  go_wp2_with fail
  go_ret
  exact ⟨rfl, HB2.out⟩

set_option maxRecDepth 100000 in
set_option maxHeartbeats 1000000 in
theorem drifts3 (v : Value) (s : List Int) (b a : Rg) (w : World) (hv : Sl encI 1 w w.heap.size v s) (hs : s.length ≤ 300) :
    Calls Try.prog 3 #[v, .agg #[.int .i64 b.lo, .int .i64 b.hi], .agg #[.int .i64 a.lo, .int .i64 a.hi]] w (Ret (.bool true) w) := by
  have HC := Lib.hid (fun (w1 : World) (hb : Below w.heap.size w w1) => drift17 v s b a w1 (hv.later hb))
  have HS := Lib.hid (fun (w1 : World) (hb : Below w.heap.size w w1) => ckShown19 v s w1 (hv.later hb))
  have HW := Lib.hid (fun (w1 : World) (hb : Below w.heap.size w w1) => drift22 v s b a w1 (hv.later hb))
  obtain ⟨h1, h2⟩ := drift_law s b a
  obtain ⟨bad, hbad⟩ : ∃ bad, firstNZ [ckShown s, ckRange b, ckRange a] = bad := ⟨_, rfl⟩
  rw [hbad] at h1 h2
  have HBAD := Lib.hid hbad
  clear hbad
  have H1 := Lib.hid h1
  clear h1
  have H2 := Lib.hid h2
  clear h2
  have hl := hs
  obtain ⟨a0, c0, rfl, hl0, hA⟩ := hv
  clear hA
  have HC1 := Lib.hid (fun w1 (hb : Below w.heap.size w w1) => (HC.out w1 hb).mono (fun e w' h => (h : RetSlE Rg.enc 2 (driftR s b a) (driftE s b a) w1 e w')))
  go_enter Try.func3, Try.ntmps3
  go_wp2_with fail
  refine (awake16 _).mono ?_
  rintro e w1 ⟨rfl, hb1⟩
  have hxb := (Box.new w #[.int .i64 b.lo, .int .i64 b.hi] 24).alloc (.cells #[.int .i64 a.lo, .int .i64 a.hi] 24)
  have hxa := Box.newAt (w.alloc (.cells #[.int .i64 b.lo, .int .i64 b.hi] 24)) #[.int .i64 a.lo, .int .i64 a.hi] 24 (n := w.heap.size + 1) (by simp)
  have HXB := Lib.hid (hxb.later hb1)
  have HXA := Lib.hid (hxa.later hb1)
  have HB1 := Lib.hid ((((Below.refl w.heap.size w).alloc (Nat.le_refl _) (.cells #[.int .i64 b.lo, .int .i64 b.hi] 24)).alloc (by simp) (.cells #[.int .i64 a.lo, .int .i64 a.hi] 24)).trans (hb1.mono (by simp; omega)))
  have x0 := HXB.out.cell 0
  have x1 := HXB.out.cell 1
  have y0 := HXA.out.cell 0
  have y1 := HXA.out.cell 1
  have xz := HXB.out.lt
  have yz := HXA.out.lt
  simp only [List.getElem?_cons_zero, List.getElem?_cons_succ] at x0 x1 y0 y1
  clear hb1 hxb hxa
  go_wp2_with fail
  refine (HC1.out _ HB1.out).mono ?_
  rintro e w2 ⟨vd, rfl, hsd, hb2⟩
  have HXB2 := Lib.hid (HXB.out.later hb2)
  have HXA2 := Lib.hid (HXA.out.later hb2)
  have HB2 := Lib.hid (HB1.out.trans (hb2.mono HB1.out.size))
  have HSD := Lib.hid hsd
  clear hb2 HXB HXA x0 x1 y0 y1 xz yz hsd
  have x0 := HXB2.out.cell 0
  have x1 := HXB2.out.cell 1
  have y0 := HXA2.out.cell 0
  have y1 := HXA2.out.cell 1
  have xz := HXB2.out.lt
  have yz := HXA2.out.lt
  simp only [List.getElem?_cons_zero, List.getElem?_cons_succ] at x0 x1 y0 y1
  obtain ⟨DE, hDE⟩ : ∃ DE, driftE s b a = DE := ⟨_, rfl⟩
  rw [hDE]
  have HDE := Lib.hid hDE
  clear hDE
  go_wp2_with fail
  have HS2 := Lib.hid (fun (X : Later w2) => HS.out X.w (HB2.out.trans (X.h.mono HB2.out.size)))
  refine wp_region_head_later 6 (by kernel_rfl) (by kernel_rfl) ?_
  simp only [List.take_succ_cons, List.take_zero, List.drop_succ_cons, List.drop_zero]
  repeat go_big_quiet_step ((first | (go_at_call 19; exact Calls.later_same (HS2.out _)) | (go_at_call 20; exact Calls.later (ckRange20 ⟨_, _⟩ _))))
  refine wpQuiet_nil ?_
  rintro w3 ⟨⟨_, hb3⟩, rfl⟩
  have HXB3 := Lib.hid (HXB2.out.later hb3)
  have HXA3 := Lib.hid (HXA2.out.later hb3)
  have HB3 := Lib.hid (HB2.out.trans (hb3.mono HB2.out.size))
  have HSD3 := Lib.hid (HSD.out.later hb3)
  clear hb3 HXB2 HXA2 x0 x1 y0 y1 xz yz HSD HS2 HB2
  have hfirst := first18 (.slice (some ⟨w3.heap.size, 0, none⟩) 3 3) [ckShown s, ckRange b, ckRange a] _ (Sl.lit encI_len _ w3 #[.int .i64 (ckShown s), .int .i64 (ckRange b), .int .i64 (ckRange a)] 3 3 rfl rfl (by simp))
  rw [HBAD.out] at hfirst
  have HF := Lib.hid hfirst
  clear hfirst
  have hba : Below w3.heap.size w3 (w3.alloc (.cells #[.int .i64 (ckShown s), .int .i64 (ckRange b), .int .i64 (ckRange a)] 3)) := (Below.refl _ _).alloc (Nat.le_refl _) _
  have HXB4 := Lib.hid (HXB3.out.later hba)
  have HXA4 := Lib.hid (HXA3.out.later hba)
  have HB4 := Lib.hid (HB3.out.trans (hba.mono HB3.out.size))
  have HSD4 := Lib.hid (HSD3.out.later hba)
  clear hba HXB3 HXA3 HB3 HSD3
  have x0 := HXB4.out.cell 0
  have x1 := HXB4.out.cell 1
  have y0 := HXA4.out.cell 0
  have y1 := HXA4.out.cell 1
  have xz := HXB4.out.lt
  have yz := HXA4.out.lt
  simp only [List.getElem?_cons_zero, List.getElem?_cons_succ] at x0 x1 y0 y1
  by_cases h0 : bad = 0
  · subst h0
    obtain ⟨g1, g2, g3, g4, g5⟩ := H2.out rfl
    have HW2 := Lib.hid (HW.out _ HB4.out g1 g2 g3 g4)
    have HG := Lib.hid g5
    clear g1 g2 g3 g4 g5
    go_wp2_with (go_at_call 18; refine HF.out.mono ?_; rintro e w' ⟨rfl, rfl⟩)
    refine HW2.out.mono ?_
    rintro e w5 ⟨vw, rfl, hsw, hb5⟩
    have HB5 := Lib.hid (HB4.out.trans (hb5.mono HB4.out.size))
    have HSD5 := Lib.hid (HSD4.out.later hb5)
    clear hb5 HW2 HXB4 HXA4 HB4 HSD4 x0 x1 y0 y1 xz yz
    obtain ⟨L, hL⟩ : ∃ L, driftL s b a = L := ⟨_, rfl⟩
    have hLl : L.length = s.length := by rw [← hL, driftL_length]
    rw [hL] at hsw
    rw [hL] at HG
    have HL := Lib.hid hL
    clear hL
    obtain ⟨mL, hmL⟩ : ∃ mL, L.length = mL := ⟨_, rfl⟩
    have hm300 : mL ≤ 300 := by omega
    have HSW := Lib.hid hsw
    obtain ⟨aw, cw, rfl, _, hA⟩ := hsw
    rw [hmL]
    have HAW := Lib.hid (show ∀ i (h : i < L.length), ∃ bb off, aw = some ⟨bb, off, none⟩ ∧ At w5 bb (off + i * 2) L[i].enc from fun i h => by
      obtain ⟨bb, off, h1, _, h2⟩ := hA (by omega)
      exact ⟨bb, off, h1, h2 i h⟩)
    clear hA hLl
    rw [hmL] at HSW
    have HML := Lib.hid hmL
    clear hmL
    go_wp2_with fail
    go_loop [9, 11] (fun z i => ∃ k : Nat, k ≤ mL ∧ i = .int .i64 k ∧ z = .int .i64 (if (L.take k).any offR then 4 else 0)) (fun _ i => mL - (intOf i).toNat)
    case atStart => exact ⟨0, by omega, rfl, rfl⟩
    case round =>
      obtain ⟨k, hk, rfl, rfl⟩ := hrel
      obtain ⟨z0, hz0⟩ : ∃ z0 : Int, (if (L.take k).any offR = true then 4 else 0) = z0 := ⟨_, rfl⟩
      rw [hz0]
      have HZ0 := Lib.hid hz0
      clear hz0
      by_cases hlt : k < mL
      · have hlt' : k < L.length := by rw [HML.out]; exact hlt
        obtain ⟨bb, off, rfl, hat⟩ := HAW.out k hlt'
        obtain ⟨e0, e1⟩ := hat.c2
        have HSN := Lib.hid (any_take_snoc L offR k L[k] (List.getElem?_eq_getElem hlt'))
        obtain ⟨r, hr⟩ : ∃ r, L[k] = r := ⟨_, rfl⟩
        rw [hr] at e0 e1 HSN
        clear hr hat HAW
        obtain ⟨lo, hi⟩ := r
        dsimp only at *
        by_cases h1 : lo < -999999999
        · have HO := Lib.hid (show offR ⟨lo, hi⟩ = true by simp [offR, h1])
          go_wp2_with fail
          go_round
          case rel => exact ⟨k + 1, by omega, by go_num, by rw [HSN.out, HO.out, Bool.or_true]; rfl⟩
          case measure => simp [intOf]; omega
        by_cases h2 : 999999999 < hi
        · have HO := Lib.hid (show offR ⟨lo, hi⟩ = true by simp [offR, h2])
          go_wp2_with fail
          go_round
          case rel => exact ⟨k + 1, by omega, by go_num, by rw [HSN.out, HO.out, Bool.or_true]; rfl⟩
          case measure => simp [intOf]; omega
        · have HO := Lib.hid (show offR ⟨lo, hi⟩ = false by simp [offR, h1, h2])
          go_wp2_with fail
          go_round
          case rel => exact ⟨k + 1, by omega, by go_num, by rw [HSN.out, HO.out, Bool.or_false]; exact congrArg (Value.int .i64) HZ0.out.symm⟩
          case measure => simp [intOf]; omega
      · obtain rfl : mL = k := by omega
        have hz := HZ0.out
        rw [List.take_of_length_le (by rw [HML.out]; exact Nat.le_refl _)] at hz
        have hr := ranges21 vd (.slice aw mL cw) (driftR s b a) L DE z0 w5 HSD5.out HSW.out
        rw [← hz, show decide (rangesP (driftR s b a) DE (if L.any offR = true then 4 else 0) L) = true from decide_eq_true (by have h := HG.out; rw [HDE.out] at h; exact h), hz] at hr
        have HR := Lib.hid hr
        clear hr hz
        go_wp2_with fail
        refine HR.out.mono ?_
        rintro e w6 ⟨rfl, hb6⟩
        have HB6 := Lib.hid (HB5.out.trans (hb6.mono HB5.out.size))
        clear hb6
        go_wp2_with fail
        go_ret
        exact ⟨rfl, HB6.out⟩
  · have hne : (bad == 0) = false := by simp [h0]
    have hr := ranges21 vd (.slice none 0 0) (driftR s b a) [] DE bad _ HSD4.out (Sl.nil _ _ _ _ _ _)
    rw [show decide (rangesP (driftR s b a) DE bad []) = true from decide_eq_true (by have h := H1.out h0; rw [HDE.out] at h; exact h)] at hr
    have HR := Lib.hid hr
    clear hr
    go_wp2_with (go_at_call 18; refine HF.out.mono ?_; rintro e w' ⟨rfl, rfl⟩)
    refine HR.out.mono ?_
    rintro e w6 ⟨rfl, hb6⟩
    have HB6 := Lib.hid (HB4.out.trans (hb6.mono HB4.out.size))
    clear hb6
    go_wp2_with fail
    go_ret
    exact ⟨rfl, HB6.out⟩
end Go.Proofs.Ytlakcghdehdeiaa

namespace Go.Proofs.Ytlakcghdehdeiaa
open Go Go.Proofs Go.RowKit Go.ChangeShapes Go.WideShapes Go.ChangeAt Go.Joins Go.Deep

set_option maxRecDepth 100000 in
theorem drifts_contract (H : Type) (enc : TypeId × Value → H) (W : World) (base : Nat) (args : Array Value) (ds gs : List (DataW H)) (before : List MemPlace)
    (hval : ∀ (j : Nat) t v, Try.f3.params[j]? = some t → args[j]? = some v → Value.okWide Try.prog W .any base t v)
    (hW : DataW.Whole enc Try.prog Try.f3.params.toList Rows.weighDriftsSpec.vars false W args.toList ds gs before) :
    Calls Try.prog 3 args W fun e W' => ∃ v, e = .returned v ∧ Rows.weighDriftsSpec.post enc Try.prog Try.f3 false true false false W args v W' := by
  have hW' := hW
  obtain ⟨p, q, hA0, hV, rfl, hfz, hnd⟩ := hW
  have hA : DataW.TrodAll enc Try.prog W 0 (fun _ => true) true Try.f3.params.toList args.toList ds p := hA0
  rw [Try.params3] at hA hval
  obtain ⟨v0, v1, v2, d0, d1, d2, p0, p1, p2, rfl, rfl, rfl, h0, h1, h2⟩ := trodAll_three hA
  obtain ⟨a0, n, c, rfl⟩ := okWide_slice Try.underlying22 (hval 0 22 v0 rfl rfl)
  obtain ⟨b, rfl⟩ := rg_open (hval 1 24 v1 rfl rfl) h1
  obtain ⟨a, rfl⟩ := rg_open (hval 2 24 v2 rfl rfl) h2
  obtain ⟨hn, hl⟩ := sl_ints h0
  have key : Calls Try.prog 3 #[.slice a0 n c, .agg #[.int .i64 b.lo, .int .i64 b.hi], .agg #[.int .i64 a.lo, .int .i64 a.hi]] W (Ret (.bool true) W) := by
    by_cases hbig : 300 < n
    · exact drifts3_big a0 n c b a W hn hbig
    · obtain ⟨l, hll, hs, _⟩ := hl (by omega)
      exact drifts3 _ l b a W hs (by omega)
  refine key.mono fun e W' ⟨he, hb⟩ => ⟨_, he, ?_⟩
  exact law_post rfl rfl rfl (by rw [Try.params3]; decide) hW' rfl rfl rfl hb

set_option maxRecDepth 100000 in
theorem drifts_lifted (os : Os) (started : os.Started) (H : Type) (enc : TypeId × Value → H) :
    ReturnsInHanded {} Try.checked os 3 .any (Rows.weighDriftsSpec.pre6 enc Try.prog Try.f3 Rows.weighDriftsRow.domain false) (Rows.weighDriftsSpec.post enc Try.prog Try.f3 false true false false) := by
  refine returnsInHanded_of_change (C := Try.checked) Try.own started (by kernel_rfl) Try.func3
    (ChangeSpec.witness6 (enc := enc) (C := Try.checked) false ⟨#[], #[.slice none 0 0, .agg #[.int .i64 0, .int .i64 0], .agg #[.int .i64 0, .int .i64 0]], []⟩ 8 (by kernel_rfl) (by kernel_rfl) (by kernel_rfl) (by kernel_rfl)) ?_
  intro W base args ds gs before hval hW _ _
  exact drifts_contract H enc W base args ds gs before hval hW

theorem weighDrifts_holds : Rows.WeighDriftsSaid :=
  OpenClaim.holds_of_wide 3 Try.f3 rfl rfl rfl rfl rfl rfl rfl ⟨rfl, rfl, rfl, rfl, rfl⟩ rfl rfl rfl rfl rfl (by kernel_rfl) Try.func3 (by kernel_rfl)
    (of_decide_eq_true (by kernel_rfl)) (by unfold Func.isWrapper; first | (rw [if_pos (by decide +kernel)]; kernel_rfl) | (rw [if_neg (by decide +kernel)]; exact ⟨rfl, rfl⟩))
    (fun os started H enc _ => drifts_lifted os started H enc)
end Go.Proofs.Ytlakcghdehdeiaa
