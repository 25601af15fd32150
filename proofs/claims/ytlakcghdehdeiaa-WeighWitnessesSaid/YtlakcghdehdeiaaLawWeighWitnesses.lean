/- The law WeighWitnesses returns true for every input, and leaves its arguments as they were. No conditions. -/
import Derived.Test.YtlakcghdehdeiaaLib19
import Derived.Test.YtlakcghdehdeiaaLib14
import Derived.Test.YtlakcghdehdeiaaLib15
import Derived.Test.YtlakcghdehdeiaaLib21
set_option linter.unusedVariables false
set_option linter.unusedSimpArgs false

/- The law of Tighten, walked. -/
namespace Go.Proofs.Ytlakcghdehdeiaa
open Go Go.Proofs Go.RowKit

/-- A book that the laws leave aside. -/
def AsideB (w : World) (v : Value) : Prop := ∀ w1, Below w.heap.size w w1 → Calls Try.prog 23 #[v] w1 (Ret (.bool true) w1)
theorem asideB_big (a1 a2 : Option Addr) (n1 c1 n2 c2 : Nat) (w : World) (h1 : n1 ≤ 9223372036854775807) (h2 : n2 ≤ 9223372036854775807) (hb : 40 < n1 ∨ 132 < n2) : AsideB w (.agg #[.slice a1 n1 c1, .slice a2 n2 c2]) :=
  fun w1 _ => heavy23_big a1 a2 n1 c1 n2 c2 w1 h1 h2 hb
theorem asideB_of {v1 v2 : Value} {b : Bk} {w : World} (hv : BkR w w.heap.size v1 v2 b) (h : heavyB b = true) : AsideB w (.agg #[v1, v2]) := fun w1 hb => by
  have := heavy23 v1 v2 b w1 (hv.later hb)
  rwa [h] at this

set_option maxRecDepth 100000 in
set_option maxHeartbeats 1000000 in
theorem tightens8_aside (v1 v2 : Value) (w : World) (h : AsideB w (.agg #[v1, v2])) (hs : (∃ a n c, v1 = .slice a n c) ∧ ∃ a n c, v2 = .slice a n c) :
    Calls Try.prog 8 #[.agg #[v1, v2]] w (Ret (.bool true) w) := by
  obtain ⟨⟨a1, n1, c1, rfl⟩, a2, n2, c2, rfl⟩ := hs
  have H := Lib.hid h
  clear h
  go_enter Try.func8, Try.ntmps8
  go_wp2_with fail
  refine (awake16 _).mono ?_
  rintro e w1 ⟨rfl, hb1⟩
  have HX := Lib.hid ((Box.new w #[.slice a1 n1 c1, .slice a2 n2 c2] 38).later hb1)
  have HB1 := Lib.hid (((Below.refl w.heap.size w).alloc (Nat.le_refl _) (.cells #[.slice a1 n1 c1, .slice a2 n2 c2] 38)).trans (hb1.mono (by simp)))
  clear hb1
  obtain ⟨x0, x1, xf, xz⟩ := HX.out.v2
  go_wp2_with fail
  refine (H.out _ HB1.out).mono ?_
  rintro e w2 ⟨rfl, hb2⟩
  have HB2 := Lib.hid (HB1.out.trans (hb2.mono HB1.out.size))
  clear hb2 x0 x1 xf xz
  go_wp2_with fail
  refine (awake16 _).mono ?_
  rintro e w3 ⟨rfl, hb3⟩
  have HB3 := Lib.hid (HB2.out.trans (hb3.mono HB2.out.size))
  clear hb3
  go_wp2_with fail
  go_ret
  exact ⟨rfl, HB3.out⟩

theorem ranges_ok (v r : Value) (l lr : List Rg) (e n : Int) (w : World) (hl : Sl Rg.enc 2 w w.heap.size v l) (hr : Sl Rg.enc 2 w w.heap.size r lr) (h : rangesP l e n lr) : Calls Try.prog 21 #[v, .int .i64 e, .int .i64 n, r] w (Ret (.bool true) w) := by
  have := ranges21 v r l lr e n w hl hr
  rwa [decide_eq_true h] at this

set_option maxRecDepth 100000 in
set_option maxHeartbeats 1000000 in
theorem tightens8 (v1 v2 : Value) (w : World) (b : Bk) (hv : BkR w w.heap.size v1 v2 b) (hhv : heavyB b = false) :
    Calls Try.prog 8 #[.agg #[v1, v2]] w (Ret (.bool true) w) := by
  obtain ⟨R, hR⟩ : ∃ R : Bool, R = true ↔ Con b := by
    classical
    exact ⟨decide (Con b), by simp⟩
  have H := Lib.hid (fun (w1 : World) (hb : Below w.heap.size w w1) => heavy23 v1 v2 b w1 (hv.later hb))
  have C24 := Lib.hid (fun (w1 : World) (hb : Below w.heap.size w w1) => ckBook24 v1 v2 b w1 (hv.later hb))
  have C37 := Lib.hid (fun (w1 : World) (hb : Below w.heap.size w w1) => isCon37 w1 v1 v2 b (hv.later hb))
  have C35 := Lib.hid (fun (w1 : World) (hb : Below w.heap.size w w1) => tighten35 w1 v1 v2 b (hv.later hb))
  have C31 := Lib.hid (fun (w1 : World) (hb : Below w.heap.size w w1) (hok : OkBk b) => isCon31 w1 v1 v2 b hok (hv.later hb) R hR)
  have C38 := Lib.hid (fun (w1 : World) (hb : Below w.heap.size w w1) (hok : OkBk b) (hc : Con b) => tighten38 w1 v1 v2 b hok (hv.later hb) hc)
  rw [hhv] at H
  have HR := Lib.hid hR
  clear hR hhv
  obtain ⟨⟨a1, n1, hv1, hl1, hA1⟩, ⟨a2, n2, hv2, hl2, hA2⟩, hids⟩ := hv
  subst hv1 hv2
  clear hA1 hA2 hids
  obtain ⟨CK, hCK⟩ : ∃ CK, ckBook b = CK := ⟨_, rfl⟩
  rw [hCK] at C24
  have ECK := Lib.hid hCK
  clear hCK
  go_enter Try.func8, Try.ntmps8
  go_wp2_with fail
  refine (awake16 _).mono ?_
  rintro e w1 ⟨rfl, hb1⟩
  have HX1 := Lib.hid ((Box.new w #[.slice a1 b.st.length n1, .slice a2 b.ts.length n2] 38).later hb1)
  have HB1 := Lib.hid (((Below.refl w.heap.size w).alloc (Nat.le_refl _) (.cells #[.slice a1 b.st.length n1, .slice a2 b.ts.length n2] 38)).trans (hb1.mono (by simp)))
  clear hb1
  obtain ⟨x0, x1, xf, xz⟩ := HX1.out.v2
  go_wp2_with fail
  refine (H.out _ HB1.out).mono ?_
  rintro e w2 ⟨rfl, hb2⟩
  have HX2 := Lib.hid (HX1.out.later hb2)
  have HB2 := Lib.hid (HB1.out.trans (hb2.mono HB1.out.size))
  clear hb2 x0 x1 xf xz HX1 HB1
  obtain ⟨x0, x1, xf, xz⟩ := HX2.out.v2
  go_wp2_with fail
  refine (C37.out _ HB2.out).mono ?_
  rintro e w3 ⟨ok, rfl, hb3, hok⟩
  have HX3 := Lib.hid (HX2.out.later hb3)
  have HB3 := Lib.hid (HB2.out.trans (hb3.mono HB2.out.size))
  rw [ECK.out] at hok ⊢
  have HOK := Lib.hid hok
  clear hok hb3 x0 x1 xf xz HX2 HB2
  obtain ⟨x0, x1, xf, xz⟩ := HX3.out.v2
  go_wp2_with fail
  refine (C35.out _ HB3.out).mono ?_
  rintro e w4 ⟨hb4, hor⟩
  rw [ECK.out] at hor
  have HOR := Lib.hid hor
  have HX4 := Lib.hid (HX3.out.later hb4)
  have HB4 := Lib.hid (HB3.out.trans (hb4.mono HB3.out.size))
  clear hor hb4 x0 x1 xf xz HX3 HB3
  obtain ⟨x0, x1, xf, xz⟩ := HX4.out.v2
  rcases HOR.out with ⟨h0, rfl⟩ | ⟨h0, hc, rfl⟩ | ⟨h0, hc, vt, rs, rfl, hsl, hlen, htt⟩
  · have hok : ok = false := by
      cases ok with
      | false => rfl
      | true => exact absurd (HOK.out.1 rfl).1 h0
    subst hok
    go_wp2_with fail
    refine (C24.out _ HB4.out).mono ?_
    rintro e w5 ⟨rfl, hb5⟩
    have HB5 := Lib.hid (HB4.out.trans (hb5.mono HB4.out.size))
    clear hb5 x0 x1 xf xz HX4 HB4
    have k0 : (CK == 0) = false := beq_eq_false_iff_ne.2 h0
    have k1 : (CK == CK) = true := beq_self_eq_true _
    go_wp2_with fail
    refine (ranges_ok _ _ [] [] CK CK w5 (Sl.nil _ _ _ _ _ _) (Sl.nil _ _ _ _ _ _) (by unfold rangesP; rw [if_pos h0]; exact ⟨rfl, rfl⟩)).mono ?_
    rintro e w6 ⟨rfl, hb6⟩
    have HB6 := Lib.hid (HB5.out.trans (hb6.mono HB5.out.size))
    clear hb6
    go_wp2_with fail
    go_ret
    exact ⟨rfl, HB6.out⟩
  · subst h0
    have hok : ok = R := by
      have h1 := HOK.out
      have h2 := HR.out
      cases ok <;> cases R <;> simp_all
    subst hok
    have hrf : ok = false := by
      cases ok with
      | false => rfl
      | true => exact absurd (HR.out.1 rfl) hc
    subst hrf
    go_wp2_with fail
    refine (C24.out _ HB4.out).mono ?_
    rintro e w5 ⟨rfl, hb5⟩
    have HX5 := Lib.hid (HX4.out.later hb5)
    have HB5 := Lib.hid (HB4.out.trans (hb5.mono HB4.out.size))
    clear hb5 x0 x1 xf xz HX4 HB4
    obtain ⟨x0, x1, xf, xz⟩ := HX5.out.v2
    go_wp2_with fail
    refine (C31.out _ HB5.out (okBk_of ECK.out)).mono ?_
    rintro e w6 ⟨rfl, hb6⟩
    have HB6 := Lib.hid (HB5.out.trans (hb6.mono HB5.out.size))
    clear hb6 x0 x1 xf xz HX5 HB5
    go_wp2_with fail
    refine (ranges_ok _ _ [] [] 15 15 w6 (Sl.nil _ _ _ _ _ _) (Sl.nil _ _ _ _ _ _) (by unfold rangesP; simp)).mono ?_
    rintro e w7 ⟨rfl, hb7⟩
    have HB7 := Lib.hid (HB6.out.trans (hb7.mono HB6.out.size))
    clear hb7
    go_wp2_with fail
    go_ret
    exact ⟨rfl, HB7.out⟩
  · subst h0
    have hok : ok = R := by
      have h1 := HOK.out
      have h2 := HR.out
      cases ok <;> cases R <;> simp_all
    subst hok
    have hrf : ok = true := HR.out.2 hc
    subst hrf
    have HSL4 := Lib.hid hsl
    have HTT := Lib.hid htt
    clear hsl htt
    go_wp2_with fail
    refine (C24.out _ HB4.out).mono ?_
    rintro e w5 ⟨rfl, hb5⟩
    have HX5 := Lib.hid (HX4.out.later hb5)
    have HB5 := Lib.hid (HB4.out.trans (hb5.mono HB4.out.size))
    have HSL5 := Lib.hid (HSL4.out.later hb5)
    clear hb5 x0 x1 xf xz HX4 HB4 HSL4
    obtain ⟨x0, x1, xf, xz⟩ := HX5.out.v2
    go_wp2_with fail
    refine (C31.out _ HB5.out (okBk_of ECK.out)).mono ?_
    rintro e w6 ⟨rfl, hb6⟩
    have HX6 := Lib.hid (HX5.out.later hb6)
    have HB6 := Lib.hid (HB5.out.trans (hb6.mono HB5.out.size))
    have HSL6 := Lib.hid (HSL5.out.later hb6)
    clear hb6 x0 x1 xf xz HX5 HB5 HSL5
    obtain ⟨x0, x1, xf, xz⟩ := HX6.out.v2
    go_wp2_with fail
    refine (C38.out _ HB6.out (okBk_of ECK.out) hc).mono ?_
    rintro e w7 ⟨vt2, rs2, rfl, hsl2, hlen2, htt2, hb7⟩
    have hrr : rs2 = rs := TightS.unique (tightS_of (okBk_of ECK.out) hlen HTT.out) (tightS_of (okBk_of ECK.out) hlen2 htt2)
    subst hrr
    have HB7 := Lib.hid (HB6.out.trans (hb7.mono HB6.out.size))
    have HSL7 := Lib.hid (HSL6.out.later hb7)
    have HSL2 := Lib.hid hsl2
    clear hb7 hsl2 htt2 x0 x1 xf xz HX6 HB6 HSL6
    go_wp2_with fail
    refine (ranges_ok _ _ rs2 rs2 0 0 w7 HSL7.out HSL2.out (by unfold rangesP; simp)).mono ?_
    rintro e w8 ⟨rfl, hb8⟩
    have HB8 := Lib.hid (HB7.out.trans (hb8.mono HB7.out.size))
    clear hb8
    go_wp2_with fail
    go_ret
    exact ⟨rfl, HB8.out⟩
end Go.Proofs.Ytlakcghdehdeiaa

/- The law of Witness, walked. -/
namespace Go.Proofs.Ytlakcghdehdeiaa
open Go Go.Proofs Go.RowKit

theorem wit_end {b : Bk} {i : Nat} {high : Bool} {ms : List Int} {rs : List Rg} (ht : TightS b rs) (hi : i < rs.length) (hm : i < ms.length) (h : WitOk b i high ms) : ms[i] = if high then rs[i].hi else rs[i].lo := by
  obtain ⟨⟨a, a1, a2⟩, ⟨c, c1, c2⟩, hb⟩ := ht.sp i hi
  have h1 := hb ms h.1
  have h2 := h.2 a a1
  have h3 := h.2 c c1
  dsimp only at a2 c2 h1
  rw [getD_at ms i hm] at h1 h2 h3
  cases high
  · simp only [Bool.false_eq_true, if_false] at h2 h3 ⊢; omega
  · simp only [if_true] at h2 h3 ⊢; omega

set_option maxRecDepth 100000 in
set_option maxHeartbeats 1000000 in
theorem witnesses11_aside (v1 v2 : Value) (t : Int) (high : Bool) (w : World) (h : AsideB w (.agg #[v1, v2])) (hs : (∃ a n c, v1 = .slice a n c) ∧ ∃ a n c, v2 = .slice a n c) :
    Calls Try.prog 11 #[.agg #[v1, v2], .int .i64 t, .bool high] w (Ret (.bool true) w) := by
  obtain ⟨⟨a1, n1, c1, rfl⟩, a2, n2, c2, rfl⟩ := hs
  have H := Lib.hid h
  clear h
  go_enter Try.func11, Try.ntmps11
  go_wp2_with fail
  refine (awake16 _).mono ?_
  rintro e w1 ⟨rfl, hb1⟩
  have HX := Lib.hid ((Box.new w #[.slice a1 n1 c1, .slice a2 n2 c2] 38).later hb1)
  have HB1 := Lib.hid (((Below.refl w.heap.size w).alloc (Nat.le_refl _) (.cells #[.slice a1 n1 c1, .slice a2 n2 c2] 38)).trans (hb1.mono (by simp)))
  clear hb1
  obtain ⟨x0, x1, xf, xz⟩ := HX.out.v2
  go_wp2_with fail
  refine (H.out _ HB1.out).mono ?_
  rintro e w2 ⟨rfl, hb2⟩
  have HB2 := Lib.hid (HB1.out.trans (hb2.mono HB1.out.size))
  clear hb2 x0 x1 xf xz
  go_wp2_with fail
  refine (awake16 _).mono ?_
  rintro e w3 ⟨rfl, hb3⟩
  have HB3 := Lib.hid (HB2.out.trans (hb3.mono HB2.out.size))
  clear hb3
  go_wp2_with fail
  go_ret
  exact ⟨rfl, HB3.out⟩

set_option maxRecDepth 100000 in
set_option maxHeartbeats 1000000 in
theorem witnesses11 (v1 v2 : Value) (t : Int) (high : Bool) (w : World) (b : Bk) (hv : BkR w w.heap.size v1 v2 b) (hhv : heavyB b = false) :
    Calls Try.prog 11 #[.agg #[v1, v2], .int .i64 t, .bool high] w (Ret (.bool true) w) := by
  obtain ⟨R, hR⟩ : ∃ R : Bool, R = true ↔ Con b := by
    classical
    exact ⟨decide (Con b), by simp⟩
  have H := Lib.hid (fun (w1 : World) (hb : Below w.heap.size w w1) => heavy23 v1 v2 b w1 (hv.later hb))
  have C24 := Lib.hid (fun (w1 : World) (hb : Below w.heap.size w w1) => ckBook24 v1 v2 b w1 (hv.later hb))
  have C43 := Lib.hid (fun (w1 : World) (hb : Below w.heap.size w w1) => witness43 w1 v1 v2 b t high (hv.later hb))
  have C31 := Lib.hid (fun (w1 : World) (hb : Below w.heap.size w w1) (hok : OkBk b) => isCon31 w1 v1 v2 b hok (hv.later hb) R hR)
  have C38 := Lib.hid (fun (w1 : World) (hb : Below w.heap.size w w1) (hok : OkBk b) (hc : Con b) => tighten38 w1 v1 v2 b hok (hv.later hb) hc)
  have C28 := Lib.hid (fun (w1 : World) (hb : Below w.heap.size w w1) (u : Value) (ms : List Int) (hu : Sl encI 1 w1 w1.heap.size u ms) (hl : ms.length = b.ts.length) (hok : ckBook b = 0) (ha : IsAsg b ms) => holds28 v1 v2 u b ms w1 (hv.later hb) hu hl hok true (by simp [ha]))
  rw [hhv] at H
  have HR := Lib.hid hR
  clear hR hhv
  obtain ⟨⟨a1, n1, hv1, hl1, hA1⟩, ⟨a2, n2, hv2, hl2, hA2⟩, hids⟩ := hv
  subst hv1 hv2
  clear hA1 hA2 hids
  obtain ⟨CK, hCK⟩ : ∃ CK, ckBook b = CK := ⟨_, rfl⟩
  rw [hCK] at C24
  have ECK := Lib.hid hCK
  clear hCK
  go_enter Try.func11, Try.ntmps11
  go_wp2_with fail
  refine (awake16 _).mono ?_
  rintro e w1 ⟨rfl, hb1⟩
  have HX1 := Lib.hid ((Box.new w #[.slice a1 b.st.length n1, .slice a2 b.ts.length n2] 38).later hb1)
  have HB1 := Lib.hid (((Below.refl w.heap.size w).alloc (Nat.le_refl _) (.cells #[.slice a1 b.st.length n1, .slice a2 b.ts.length n2] 38)).trans (hb1.mono (by simp)))
  clear hb1
  obtain ⟨x0, x1, xf, xz⟩ := HX1.out.v2
  go_wp2_with fail
  refine (H.out _ HB1.out).mono ?_
  rintro e w2 ⟨rfl, hb2⟩
  have HX2 := Lib.hid (HX1.out.later hb2)
  have HB2 := Lib.hid (HB1.out.trans (hb2.mono HB1.out.size))
  clear hb2 x0 x1 xf xz HX1 HB1
  obtain ⟨x0, x1, xf, xz⟩ := HX2.out.v2
  go_wp2_with fail
  refine (C43.out _ HB2.out).mono ?_
  rintro e w3 ⟨hb3, hor⟩
  rw [ECK.out] at hor
  have HX3 := Lib.hid (HX2.out.later hb3)
  have HB3 := Lib.hid (HB2.out.trans (hb3.mono HB2.out.size))
  have HOR := Lib.hid hor
  clear hb3 hor x0 x1 xf xz HX2 HB2
  obtain ⟨x0, x1, xf, xz⟩ := HX3.out.v2
  rcases HOR.out with ⟨h0, rfl⟩ | ⟨h0, hto, rfl⟩ | ⟨h0, ht0, ht1, hnc, rfl⟩ | ⟨h0, hc, i, rfl, hil, vl, ms, rfl, hsl, hwit⟩
  · have k0 : (CK == 0) = false := beq_eq_false_iff_ne.2 h0
    have k1 : (CK == CK) = true := beq_self_eq_true _
    by_cases hq0 : t < 0
    · have b1 : decide (t < 0) = true := decide_eq_true hq0
      go_wp2_with fail
      refine (C24.out _ HB3.out).mono ?_
      rintro e w4 ⟨rfl, hb4⟩
      have HX4 := Lib.hid (HX3.out.later hb4)
      have HB4 := Lib.hid (HB3.out.trans (hb4.mono HB3.out.size))
      clear hb4 x0 x1 xf xz HX3 HB3
      obtain ⟨x0, x1, xf, xz⟩ := HX4.out.v2
      go_wp2_with fail
      refine (when27 true 10 _).mono ?_
      rintro e w5 ⟨rfl, rfl⟩
      simp only [whenB]
      go_wp2_with fail
      refine (first18 _ [CK, 10] _ (Sl.lit encI_len [CK, 10] w4 #[.int .i64 CK, .int .i64 10] _ 2 rfl rfl (by simp))).mono ?_
      rintro e w6 ⟨rfl, rfl⟩
      have hfn : firstNZ [CK, 10] = CK := by simp [firstNZ, h0]
      rw [hfn]
      clear hfn
      have hba : Below w4.heap.size w4 (w4.alloc (.cells #[.int .i64 CK, .int .i64 10] 3)) := (Below.refl _ _).alloc (Nat.le_refl _) _
      have HX6 := Lib.hid (HX4.out.later hba)
      have HB6 := Lib.hid (HB4.out.trans (hba.mono HB4.out.size))
      generalize w4.alloc (.cells #[.int .i64 CK, .int .i64 10] 3) = w6 at *
      clear hba HX4 HB4 x0 x1 xf xz
      obtain ⟨x0, x1, xf, xz⟩ := HX6.out.v2
      go_wp2_with fail
      go_ret
      exact ⟨rfl, HB6.out⟩
    · by_cases hq1 : (b.ts.length : Int) ≤ t
      · have b1 : decide (t < 0) = false := decide_eq_false hq0
        have b2 : decide ((b.ts.length : Int) ≤ t) = true := decide_eq_true hq1
        go_wp2_with fail
        refine (C24.out _ HB3.out).mono ?_
        rintro e w4 ⟨rfl, hb4⟩
        have HX4 := Lib.hid (HX3.out.later hb4)
        have HB4 := Lib.hid (HB3.out.trans (hb4.mono HB3.out.size))
        clear hb4 x0 x1 xf xz HX3 HB3
        obtain ⟨x0, x1, xf, xz⟩ := HX4.out.v2
        go_wp2_with fail
        refine (when27 true 10 _).mono ?_
        rintro e w5 ⟨rfl, rfl⟩
        simp only [whenB]
        go_wp2_with fail
        refine (first18 _ [CK, 10] _ (Sl.lit encI_len [CK, 10] w4 #[.int .i64 CK, .int .i64 10] _ 2 rfl rfl (by simp))).mono ?_
        rintro e w6 ⟨rfl, rfl⟩
        have hfn : firstNZ [CK, 10] = CK := by simp [firstNZ, h0]
        rw [hfn]
        clear hfn
        have hba : Below w4.heap.size w4 (w4.alloc (.cells #[.int .i64 CK, .int .i64 10] 3)) := (Below.refl _ _).alloc (Nat.le_refl _) _
        have HX6 := Lib.hid (HX4.out.later hba)
        have HB6 := Lib.hid (HB4.out.trans (hba.mono HB4.out.size))
        generalize w4.alloc (.cells #[.int .i64 CK, .int .i64 10] 3) = w6 at *
        clear hba HX4 HB4 x0 x1 xf xz
        obtain ⟨x0, x1, xf, xz⟩ := HX6.out.v2
        go_wp2_with fail
        go_ret
        exact ⟨rfl, HB6.out⟩
      · have b1 : decide (t < 0) = false := decide_eq_false hq0
        have b2 : decide ((b.ts.length : Int) ≤ t) = false := decide_eq_false hq1
        go_wp2_with fail
        refine (C24.out _ HB3.out).mono ?_
        rintro e w4 ⟨rfl, hb4⟩
        have HX4 := Lib.hid (HX3.out.later hb4)
        have HB4 := Lib.hid (HB3.out.trans (hb4.mono HB3.out.size))
        clear hb4 x0 x1 xf xz HX3 HB3
        obtain ⟨x0, x1, xf, xz⟩ := HX4.out.v2
        go_wp2_with fail
        refine (when27 false 10 _).mono ?_
        rintro e w5 ⟨rfl, rfl⟩
        simp only [whenB]
        go_wp2_with fail
        refine (first18 _ [CK, 0] _ (Sl.lit encI_len [CK, 0] w4 #[.int .i64 CK, .int .i64 0] _ 2 rfl rfl (by simp))).mono ?_
        rintro e w6 ⟨rfl, rfl⟩
        have hfn : firstNZ [CK, 0] = CK := by simp [firstNZ, h0]
        rw [hfn]
        clear hfn
        have hba : Below w4.heap.size w4 (w4.alloc (.cells #[.int .i64 CK, .int .i64 0] 3)) := (Below.refl _ _).alloc (Nat.le_refl _) _
        have HX6 := Lib.hid (HX4.out.later hba)
        have HB6 := Lib.hid (HB4.out.trans (hba.mono HB4.out.size))
        generalize w4.alloc (.cells #[.int .i64 CK, .int .i64 0] 3) = w6 at *
        clear hba HX4 HB4 x0 x1 xf xz
        obtain ⟨x0, x1, xf, xz⟩ := HX6.out.v2
        go_wp2_with fail
        go_ret
        exact ⟨rfl, HB6.out⟩
  · subst h0
    by_cases hq0 : t < 0
    · have b1 : decide (t < 0) = true := decide_eq_true hq0
      go_wp2_with fail
      refine (C24.out _ HB3.out).mono ?_
      rintro e w4 ⟨rfl, hb4⟩
      have HX4 := Lib.hid (HX3.out.later hb4)
      have HB4 := Lib.hid (HB3.out.trans (hb4.mono HB3.out.size))
      clear hb4 x0 x1 xf xz HX3 HB3
      obtain ⟨x0, x1, xf, xz⟩ := HX4.out.v2
      go_wp2_with fail
      refine (when27 true 10 _).mono ?_
      rintro e w5 ⟨rfl, rfl⟩
      simp only [whenB]
      go_wp2_with fail
      refine (first18 _ [0, 10] _ (Sl.lit encI_len [0, 10] w4 #[.int .i64 0, .int .i64 10] _ 2 rfl rfl (by simp))).mono ?_
      rintro e w6 ⟨rfl, rfl⟩
      have hfn : firstNZ [0, 10] = 10 := by simp [firstNZ]
      rw [hfn]
      clear hfn
      have hba : Below w4.heap.size w4 (w4.alloc (.cells #[.int .i64 0, .int .i64 10] 3)) := (Below.refl _ _).alloc (Nat.le_refl _) _
      have HX6 := Lib.hid (HX4.out.later hba)
      have HB6 := Lib.hid (HB4.out.trans (hba.mono HB4.out.size))
      generalize w4.alloc (.cells #[.int .i64 0, .int .i64 10] 3) = w6 at *
      clear hba HX4 HB4 x0 x1 xf xz
      obtain ⟨x0, x1, xf, xz⟩ := HX6.out.v2
      go_wp2_with fail
      go_ret
      exact ⟨rfl, HB6.out⟩
    · by_cases hq1 : (b.ts.length : Int) ≤ t
      · have b1 : decide (t < 0) = false := decide_eq_false hq0
        have b2 : decide ((b.ts.length : Int) ≤ t) = true := decide_eq_true hq1
        go_wp2_with fail
        refine (C24.out _ HB3.out).mono ?_
        rintro e w4 ⟨rfl, hb4⟩
        have HX4 := Lib.hid (HX3.out.later hb4)
        have HB4 := Lib.hid (HB3.out.trans (hb4.mono HB3.out.size))
        clear hb4 x0 x1 xf xz HX3 HB3
        obtain ⟨x0, x1, xf, xz⟩ := HX4.out.v2
        go_wp2_with fail
        refine (when27 true 10 _).mono ?_
        rintro e w5 ⟨rfl, rfl⟩
        simp only [whenB]
        go_wp2_with fail
        refine (first18 _ [0, 10] _ (Sl.lit encI_len [0, 10] w4 #[.int .i64 0, .int .i64 10] _ 2 rfl rfl (by simp))).mono ?_
        rintro e w6 ⟨rfl, rfl⟩
        have hfn : firstNZ [0, 10] = 10 := by simp [firstNZ]
        rw [hfn]
        clear hfn
        have hba : Below w4.heap.size w4 (w4.alloc (.cells #[.int .i64 0, .int .i64 10] 3)) := (Below.refl _ _).alloc (Nat.le_refl _) _
        have HX6 := Lib.hid (HX4.out.later hba)
        have HB6 := Lib.hid (HB4.out.trans (hba.mono HB4.out.size))
        generalize w4.alloc (.cells #[.int .i64 0, .int .i64 10] 3) = w6 at *
        clear hba HX4 HB4 x0 x1 xf xz
        obtain ⟨x0, x1, xf, xz⟩ := HX6.out.v2
        go_wp2_with fail
        go_ret
        exact ⟨rfl, HB6.out⟩
      · exact absurd hto (by omega)
  · subst h0
    have hrf : R = false := by
      cases R with
      | false => rfl
      | true => exact absurd (HR.out.1 rfl) hnc
    subst hrf
    have b1 : decide (t < 0) = false := decide_eq_false (by omega)
    have b2 : decide ((b.ts.length : Int) ≤ t) = false := decide_eq_false (by omega)
    go_wp2_with fail
    refine (C24.out _ HB3.out).mono ?_
    rintro e w4 ⟨rfl, hb4⟩
    have HX4 := Lib.hid (HX3.out.later hb4)
    have HB4 := Lib.hid (HB3.out.trans (hb4.mono HB3.out.size))
    clear hb4 x0 x1 xf xz HX3 HB3
    obtain ⟨x0, x1, xf, xz⟩ := HX4.out.v2
    go_wp2_with fail
    refine (when27 false 10 _).mono ?_
    rintro e w5 ⟨rfl, rfl⟩
    simp only [whenB]
    go_wp2_with fail
    refine (first18 _ [0, 0] _ (Sl.lit encI_len [0, 0] w4 #[.int .i64 0, .int .i64 0] _ 2 rfl rfl (by simp))).mono ?_
    rintro e w6 ⟨rfl, rfl⟩
    have hfn : firstNZ [0, 0] = 0 := by simp [firstNZ]
    rw [hfn]
    clear hfn
    have hba : Below w4.heap.size w4 (w4.alloc (.cells #[.int .i64 0, .int .i64 0] 3)) := (Below.refl _ _).alloc (Nat.le_refl _) _
    have HX6 := Lib.hid (HX4.out.later hba)
    have HB6 := Lib.hid (HB4.out.trans (hba.mono HB4.out.size))
    generalize w4.alloc (.cells #[.int .i64 0, .int .i64 0] 3) = w6 at *
    clear hba HX4 HB4 x0 x1 xf xz
    obtain ⟨x0, x1, xf, xz⟩ := HX6.out.v2
    go_wp2_with fail
    refine (C31.out _ HB6.out (okBk_of ECK.out)).mono ?_
    rintro e w7 ⟨rfl, hb7⟩
    have HX7 := Lib.hid (HX6.out.later hb7)
    have HB7 := Lib.hid (HB6.out.trans (hb7.mono HB6.out.size))
    clear hb7
    go_wp2_with fail
    go_ret
    exact ⟨rfl, HB7.out⟩
  · subst h0
    have hrt : R = true := HR.out.2 hc
    subst hrt
    have HSL3 := Lib.hid hsl
    have HWI := Lib.hid hwit
    have hml : ms.length = b.ts.length := hwit.1.len
    have him : i < ms.length := by omega
    have b1 : decide ((i : Int) < 0) = false := decide_eq_false (by omega)
    have b2 : decide ((b.ts.length : Int) ≤ (i : Int)) = false := decide_eq_false (by omega)
    have b3 : decide (b.ts.length ≤ i) = false := decide_eq_false (by omega)
    have HML := Lib.hid hml
    clear hsl hwit hml
    go_wp2_with fail
    refine (C24.out _ HB3.out).mono ?_
    rintro e w4 ⟨rfl, hb4⟩
    have HX4 := Lib.hid (HX3.out.later hb4)
    have HB4 := Lib.hid (HB3.out.trans (hb4.mono HB3.out.size))
    have HSL4 := Lib.hid (HSL3.out.later hb4)
    clear hb4 x0 x1 xf xz HX3 HB3
    obtain ⟨x0, x1, xf, xz⟩ := HX4.out.v2
    go_wp2_with fail
    refine (when27 false 10 _).mono ?_
    rintro e w5 ⟨rfl, rfl⟩
    simp only [whenB]
    go_wp2_with fail
    refine (first18 _ [0, 0] _ (Sl.lit encI_len [0, 0] w4 #[.int .i64 0, .int .i64 0] _ 2 rfl rfl (by simp))).mono ?_
    rintro e w6 ⟨rfl, rfl⟩
    have hfn : firstNZ [0, 0] = 0 := by simp [firstNZ]
    rw [hfn]
    clear hfn
    have hba : Below w4.heap.size w4 (w4.alloc (.cells #[.int .i64 0, .int .i64 0] 3)) := (Below.refl _ _).alloc (Nat.le_refl _) _
    have HX6 := Lib.hid (HX4.out.later hba)
    have HB6 := Lib.hid (HB4.out.trans (hba.mono HB4.out.size))
    generalize w4.alloc (.cells #[.int .i64 0, .int .i64 0] 3) = w6 at *
    have HSL6 := Lib.hid (HSL4.out.later hba)
    clear hba HSL4 HX4 HB4 x0 x1 xf xz
    obtain ⟨x0, x1, xf, xz⟩ := HX6.out.v2
    go_wp2_with fail
    refine (C31.out _ HB6.out (okBk_of ECK.out)).mono ?_
    rintro e w7 ⟨rfl, hb7⟩
    have HX7 := Lib.hid (HX6.out.later hb7)
    have HB7 := Lib.hid (HB6.out.trans (hb7.mono HB6.out.size))
    have HSL7 := Lib.hid (HSL6.out.later hb7)
    clear hb7 HX6 HB6 HSL6 x0 x1 xf xz
    obtain ⟨x0, x1, xf, xz⟩ := HX7.out.v2
    go_wp2_with fail
    refine (C38.out _ HB7.out (okBk_of ECK.out) hc).mono ?_
    rintro e w8 ⟨vt, rs, rfl, hrs, hrl, htt, hb8⟩
    have HX8 := Lib.hid (HX7.out.later hb8)
    have HB8 := Lib.hid (HB7.out.trans (hb8.mono HB7.out.size))
    have HSL8 := Lib.hid (HSL7.out.later hb8)
    have hir : i < rs.length := by omega
    have hend := wit_end (tightS_of (okBk_of ECK.out) hrl htt) hir him HWI.out
    have HEND := Lib.hid hend
    obtain ⟨at', ct, hvt, _, hA⟩ := hrs
    obtain ⟨bt, ot, hat, hbt, htc⟩ := hA (by omega)
    subst hat hvt
    rw [hrl]
    obtain ⟨r0, r1⟩ := (htc i hir).c2
    obtain ⟨ri, hri⟩ : ∃ r, rs[i] = r := ⟨_, rfl⟩
    rw [hri] at r0 r1 HEND
    obtain ⟨rl, rh⟩ := ri
    dsimp only at r0 r1
    clear hb8 HX7 HB7 HSL7 x0 x1 xf xz htc hri hend htt
    obtain ⟨x0, x1, xf, xz⟩ := HX8.out.v2
    obtain ⟨al, cl, hvl, _, hA⟩ := HSL8.out
    obtain ⟨bl, ol, hal, hbl, hlc⟩ := hA (by omega)
    subst hal hvl
    have l0 := (hlc i him).c1
    rw [Nat.mul_one] at l0
    rw [HML.out]
    have HL0 := Lib.hid l0
    clear hlc hA
    go_wp2_with fail
    have hba : Below w8.heap.size w8 (w8.alloc (.cells #[.int .i64 rl, .int .i64 rh] 24)) := (Below.refl _ _).alloc (Nat.le_refl _) _
    have HQ9 := Lib.hid (Box.new w8 #[.int .i64 rl, .int .i64 rh] 24)
    have HB9 := Lib.hid (HB8.out.trans (hba.mono HB8.out.size))
    have HSL9 := Lib.hid (HSL8.out.later hba)
    generalize w8.alloc (.cells #[.int .i64 rl, .int .i64 rh] 24) = w9 at *
    generalize w8.heap.size = P at *
    clear hba HX8 HB8 HSL8 x0 x1 xf xz r0 r1 l0 HL0
    rw [HML.out] at HSL9
    refine (C28.out w9 HB9.out _ ms HSL9.out HML.out ECK.out HWI.out.1).mono ?_
    rintro e w10 ⟨rfl, hb10⟩
    have HB10 := Lib.hid (HB9.out.trans (hb10.mono HB9.out.size))
    have hq10 := HQ9.out.later hb10
    obtain ⟨q0, q1, qf, qz⟩ := hq10.v2
    obtain ⟨_, _, e1, _, hA⟩ := HSL9.out.later hb10
    obtain ⟨bl', ol', e2, hbl', hlc⟩ := hA (by omega)
    injection e1 with e1 e3 e4
    rw [← e1] at e2
    cases e2
    clear e1 e3 e4 hA
    have l0 := (hlc i him).c1
    rw [Nat.mul_one, HEND.out] at l0
    clear hlc hb10 hq10
    have him2 : i < b.ts.length := hil
    cases high
    · simp only [Bool.false_eq_true, if_false] at l0
      have k1 : (rl == rl) = true := beq_self_eq_true _
      go_wp2_with fail
      go_quiet (fail)
      go_wp2_with fail
      go_ret
      exact ⟨rfl, below_drewN HB10.out _⟩
    · simp only [if_true] at l0
      have k1 : (rh == rh) = true := beq_self_eq_true _
      go_wp2_with fail
      go_quiet (fail)
      go_wp2_with fail
      go_ret
      exact ⟨rfl, below_drewN HB10.out _⟩
end Go.Proofs.Ytlakcghdehdeiaa

namespace Go.Proofs.Ytlakcghdehdeiaa
open Go Go.Proofs Go.RowKit Go.ChangeShapes Go.WideShapes Go.ChangeAt Go.Joins Go.Deep

set_option maxRecDepth 100000 in
theorem weighWitnesses_contract (H : Type) (enc : TypeId × Value → H) (W : World) (base : Nat) (args : Array Value) (ds gs : List (DataW H)) (before : List MemPlace)
    (hval : ∀ (j : Nat) t v, Try.f11.params[j]? = some t → args[j]? = some v → Value.okWide Try.prog W .any base t v)
    (hW : DataW.Whole enc Try.prog Try.f11.params.toList Rows.weighWitnessesSpec.vars false W args.toList ds gs before) :
    Calls Try.prog 11 args W fun e W' => ∃ v, e = .returned v ∧ Rows.weighWitnessesSpec.post enc Try.prog Try.f11 false true false false W args v W' := by
  have hW' := hW
  obtain ⟨p, q, hA0, hV, rfl, hfz, hnd⟩ := hW
  have hA : DataW.TrodAll enc Try.prog W 0 (fun _ => true) true Try.f11.params.toList args.toList ds p := hA0
  rw [Try.params11] at hA hval
  obtain ⟨v0, v1, v2, d0, d1, d2, p0, p1, p2, rfl, rfl, rfl, h0, h1, h2⟩ := trodAll_three hA
  obtain ⟨a0, n0, c0, d0, m0, e0, rfl, hn0, hm0, hl0⟩ := bk_open (hval 0 38 v0 rfl rfl) h0
  obtain ⟨x1, rfl, _, _, hn1⟩ := open_int Try.underlying3 (hval 1 3 v1 rfl rfl) h1
  obtain ⟨x2, rfl, _, _⟩ := open_bool Try.underlying4 (hval 2 4 v2 rfl rfl) h2
  have key : Calls Try.prog 11 #[.agg #[.slice a0 n0 c0, .slice d0 m0 e0], .int .i64 x1, .bool x2] W (Ret (.bool true) W) := by
    by_cases hbig : 40 < n0 ∨ 132 < m0
    · exact witnesses11_aside _ _ x1 x2 W (asideB_big a0 d0 n0 c0 m0 e0 W hn0 hm0 hbig) ⟨⟨_, _, _, rfl⟩, _, _, _, rfl⟩
    · obtain ⟨b, hb1, hb2, hb, _⟩ := hl0 (by omega) (by omega)
      by_cases hhv : heavyB b = true
      · exact witnesses11_aside _ _ x1 x2 W (asideB_of hb hhv) ⟨⟨_, _, _, rfl⟩, _, _, _, rfl⟩
      · exact witnesses11 _ _ x1 x2 W b hb (eq_false_of_ne_true hhv)
  refine key.mono fun e W' ⟨he, hb⟩ => ⟨_, he, ?_⟩
  exact law_post rfl rfl rfl (by rw [Try.params11]; decide) hW' rfl rfl rfl hb

set_option maxRecDepth 100000 in
theorem weighWitnesses_lifted (os : Os) (started : os.Started) (H : Type) (enc : TypeId × Value → H) :
    ReturnsInHanded {} Try.checked os 11 .any (Rows.weighWitnessesSpec.pre6 enc Try.prog Try.f11 Rows.weighWitnessesRow.domain false) (Rows.weighWitnessesSpec.post enc Try.prog Try.f11 false true false false) := by
  refine returnsInHanded_of_change (C := Try.checked) Try.own started (by kernel_rfl) Try.func11
    (ChangeSpec.witness6 (enc := enc) (C := Try.checked) false ⟨#[], #[.agg #[.slice none 0 0, .slice none 0 0], .int .i64 0, .bool false], []⟩ 8 (by kernel_rfl) (by kernel_rfl) (by kernel_rfl) (by kernel_rfl)) ?_
  intro W base args ds gs before hval hW _ _
  exact weighWitnesses_contract H enc W base args ds gs before hval hW

theorem weighWitnesses_holds : Rows.WeighWitnessesSaid :=
  OpenClaim.holds_of_wide 11 Try.f11 rfl rfl rfl rfl rfl rfl rfl ⟨rfl, rfl, rfl, rfl, rfl⟩ rfl rfl rfl rfl rfl (by kernel_rfl) Try.func11 (by kernel_rfl)
    (of_decide_eq_true (by kernel_rfl)) (by unfold Func.isWrapper; first | (rw [if_pos (by decide +kernel)]; kernel_rfl) | (rw [if_neg (by decide +kernel)]; exact ⟨rfl, rfl⟩))
    (fun os started H enc _ => weighWitnesses_lifted os started H enc)
end Go.Proofs.Ytlakcghdehdeiaa
