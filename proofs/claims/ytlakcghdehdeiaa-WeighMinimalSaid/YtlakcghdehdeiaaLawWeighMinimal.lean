/- The law WeighMinimal returns true for every input, and leaves its arguments as they were. No conditions. -/
import Derived.Test.YtlakcghdehdeiaaLib19
import Derived.Test.YtlakcghdehdeiaaLib14
import Derived.Test.YtlakcghdehdeiaaLib15
import Derived.Test.YtlakcghdehdeiaaLib24
import Derived.RegionTactic
import Derived.BigRegion
set_option linter.unusedVariables false
set_option linter.unusedSimpArgs false

/- The law of Tighten, walked. -/
namespace Go.Proofs.Ytlakcghdehdeiaa
open Go Go.Proofs Go.RowKit

/-- A book that the laws leave aside. -/
def AsideB (w : World) (v : Value) : Prop := ∀ w1, Below w.heap.size w w1 → Calls Try.prog 23 #[v] w1 (Ret (.bool true) w1)
theorem asideB_big (a1 a2 : Option Addr) (n1 c1 n2 c2 : Nat) (w : World) (h1 : n1 ≤ 9223372036854775807) (h2 : n2 ≤ 9223372036854775807) (hb : 40 < n1 ∨ 132 < n2) : AsideB w (.agg #[.slice a1 n1 c1, .slice a2 n2 c2]) :=
  fun w1 _ => heavy23_big a1 a2 n1 c1 n2 c2 w1 h1 h2 hb
theorem asideB_of {v1 v2 : Value} {b : Bk} {w : World} (hv : BkR w w.heap.size v1 v2 b) (h : heavyB b = true) : AsideB w (.agg #[v1, v2]) := fun w1 hb => by
  have := heavy23 v1 v2 b w1 (hv.later hb)
  rwa [h] at this

set_option maxRecDepth 100000 in
set_option maxHeartbeats 1000000 in
theorem tightens8_aside (v1 v2 : Value) (w : World) (h : AsideB w (.agg #[v1, v2])) (hs : (∃ a n c, v1 = .slice a n c) ∧ ∃ a n c, v2 = .slice a n c) :
    Calls Try.prog 8 #[.agg #[v1, v2]] w (Ret (.bool true) w) := by
  obtain ⟨⟨a1, n1, c1, rfl⟩, a2, n2, c2, rfl⟩ := hs
  have H := Lib.hid h
  clear h
  go_enter Try.func8, Try.ntmps8
  go_wp2_with fail
  refine (awake16 _).mono ?_
  rintro e w1 ⟨rfl, hb1⟩
  have HX := Lib.hid ((Box.new w #[.slice a1 n1 c1, .slice a2 n2 c2] 38).later hb1)
  have HB1 := Lib.hid (((Below.refl w.heap.size w).alloc (Nat.le_refl _) (.cells #[.slice a1 n1 c1, .slice a2 n2 c2] 38)).trans (hb1.mono (by simp)))
  clear hb1
  obtain ⟨x0, x1, xf, xz⟩ := HX.out.v2
  go_wp2_with fail
  refine (H.out _ HB1.out).mono ?_
  rintro e w2 ⟨rfl, hb2⟩
  have HB2 := Lib.hid (HB1.out.trans (hb2.mono HB1.out.size))
  clear hb2 x0 x1 xf xz
  go_wp2_with fail
  refine (awake16 _).mono ?_
  rintro e w3 ⟨rfl, hb3⟩
  have HB3 := Lib.hid (HB2.out.trans (hb3.mono HB2.out.size))
  clear hb3
  go_wp2_with fail
  go_ret
  exact ⟨rfl, HB3.out⟩

theorem ranges_ok (v r : Value) (l lr : List Rg) (e n : Int) (w : World) (hl : Sl Rg.enc 2 w w.heap.size v l) (hr : Sl Rg.enc 2 w w.heap.size r lr) (h : rangesP l e n lr) : Calls Try.prog 21 #[v, .int .i64 e, .int .i64 n, r] w (Ret (.bool true) w) := by
  have := ranges21 v r l lr e n w hl hr
  rwa [decide_eq_true h] at this

set_option maxRecDepth 100000 in
set_option maxHeartbeats 1000000 in
theorem tightens8 (v1 v2 : Value) (w : World) (b : Bk) (hv : BkR w w.heap.size v1 v2 b) (hhv : heavyB b = false) :
    Calls Try.prog 8 #[.agg #[v1, v2]] w (Ret (.bool true) w) := by
  obtain ⟨R, hR⟩ : ∃ R : Bool, R = true ↔ Con b := by
    classical
    exact ⟨decide (Con b), by simp⟩
  have H := Lib.hid (fun (w1 : World) (hb : Below w.heap.size w w1) => heavy23 v1 v2 b w1 (hv.later hb))
  have C24 := Lib.hid (fun (w1 : World) (hb : Below w.heap.size w w1) => ckBook24 v1 v2 b w1 (hv.later hb))
  have C37 := Lib.hid (fun (w1 : World) (hb : Below w.heap.size w w1) => isCon37 w1 v1 v2 b (hv.later hb))
  have C35 := Lib.hid (fun (w1 : World) (hb : Below w.heap.size w w1) => tighten35 w1 v1 v2 b (hv.later hb))
  have C31 := Lib.hid (fun (w1 : World) (hb : Below w.heap.size w w1) (hok : OkBk b) => isCon31 w1 v1 v2 b hok (hv.later hb) R hR)
  have C38 := Lib.hid (fun (w1 : World) (hb : Below w.heap.size w w1) (hok : OkBk b) (hc : Con b) => tighten38 w1 v1 v2 b hok (hv.later hb) hc)
  rw [hhv] at H
  have HR := Lib.hid hR
  clear hR hhv
  obtain ⟨⟨a1, n1, hv1, hl1, hA1⟩, ⟨a2, n2, hv2, hl2, hA2⟩, hids⟩ := hv
  subst hv1 hv2
  clear hA1 hA2 hids
  obtain ⟨CK, hCK⟩ : ∃ CK, ckBook b = CK := ⟨_, rfl⟩
  rw [hCK] at C24
  have ECK := Lib.hid hCK
  clear hCK
  go_enter Try.func8, Try.ntmps8
  go_wp2_with fail
  refine (awake16 _).mono ?_
  rintro e w1 ⟨rfl, hb1⟩
  have HX1 := Lib.hid ((Box.new w #[.slice a1 b.st.length n1, .slice a2 b.ts.length n2] 38).later hb1)
  have HB1 := Lib.hid (((Below.refl w.heap.size w).alloc (Nat.le_refl _) (.cells #[.slice a1 b.st.length n1, .slice a2 b.ts.length n2] 38)).trans (hb1.mono (by simp)))
  clear hb1
  obtain ⟨x0, x1, xf, xz⟩ := HX1.out.v2
  go_wp2_with fail
  refine (H.out _ HB1.out).mono ?_
  rintro e w2 ⟨rfl, hb2⟩
  have HX2 := Lib.hid (HX1.out.later hb2)
  have HB2 := Lib.hid (HB1.out.trans (hb2.mono HB1.out.size))
  clear hb2 x0 x1 xf xz HX1 HB1
  obtain ⟨x0, x1, xf, xz⟩ := HX2.out.v2
  go_wp2_with fail
  refine (C37.out _ HB2.out).mono ?_
  rintro e w3 ⟨ok, rfl, hb3, hok⟩
  have HX3 := Lib.hid (HX2.out.later hb3)
  have HB3 := Lib.hid (HB2.out.trans (hb3.mono HB2.out.size))
  rw [ECK.out] at hok ⊢
  have HOK := Lib.hid hok
  clear hok hb3 x0 x1 xf xz HX2 HB2
  obtain ⟨x0, x1, xf, xz⟩ := HX3.out.v2
  go_wp2_with fail
  refine (C35.out _ HB3.out).mono ?_
  rintro e w4 ⟨hb4, hor⟩
  rw [ECK.out] at hor
  have HOR := Lib.hid hor
  have HX4 := Lib.hid (HX3.out.later hb4)
  have HB4 := Lib.hid (HB3.out.trans (hb4.mono HB3.out.size))
  clear hor hb4 x0 x1 xf xz HX3 HB3
  obtain ⟨x0, x1, xf, xz⟩ := HX4.out.v2
  rcases HOR.out with ⟨h0, rfl⟩ | ⟨h0, hc, rfl⟩ | ⟨h0, hc, vt, rs, rfl, hsl, hlen, htt⟩
  · have hok : ok = false := by
      cases ok with
      | false => rfl
      | true => exact absurd (HOK.out.1 rfl).1 h0
    subst hok
    go_wp2_with fail
    refine (C24.out _ HB4.out).mono ?_
    rintro e w5 ⟨rfl, hb5⟩
    have HB5 := Lib.hid (HB4.out.trans (hb5.mono HB4.out.size))
    clear hb5 x0 x1 xf xz HX4 HB4
    have k0 : (CK == 0) = false := beq_eq_false_iff_ne.2 h0
    have k1 : (CK == CK) = true := beq_self_eq_true _
    go_wp2_with fail
    refine (ranges_ok _ _ [] [] CK CK w5 (Sl.nil _ _ _ _ _ _) (Sl.nil _ _ _ _ _ _) (by unfold rangesP; rw [if_pos h0]; exact ⟨rfl, rfl⟩)).mono ?_
    rintro e w6 ⟨rfl, hb6⟩
    have HB6 := Lib.hid (HB5.out.trans (hb6.mono HB5.out.size))
    clear hb6
    go_wp2_with fail
    go_ret
    exact ⟨rfl, HB6.out⟩
  · subst h0
    have hok : ok = R := by
      have h1 := HOK.out
      have h2 := HR.out
      cases ok <;> cases R <;> simp_all
    subst hok
    have hrf : ok = false := by
      cases ok with
      | false => rfl
      | true => exact absurd (HR.out.1 rfl) hc
    subst hrf
    go_wp2_with fail
    refine (C24.out _ HB4.out).mono ?_
    rintro e w5 ⟨rfl, hb5⟩
    have HX5 := Lib.hid (HX4.out.later hb5)
    have HB5 := Lib.hid (HB4.out.trans (hb5.mono HB4.out.size))
    clear hb5 x0 x1 xf xz HX4 HB4
    obtain ⟨x0, x1, xf, xz⟩ := HX5.out.v2
    go_wp2_with fail
    refine (C31.out _ HB5.out (okBk_of ECK.out)).mono ?_
    rintro e w6 ⟨rfl, hb6⟩
    have HB6 := Lib.hid (HB5.out.trans (hb6.mono HB5.out.size))
    clear hb6 x0 x1 xf xz HX5 HB5
    go_wp2_with fail
    refine (ranges_ok _ _ [] [] 15 15 w6 (Sl.nil _ _ _ _ _ _) (Sl.nil _ _ _ _ _ _) (by unfold rangesP; simp)).mono ?_
    rintro e w7 ⟨rfl, hb7⟩
    have HB7 := Lib.hid (HB6.out.trans (hb7.mono HB6.out.size))
    clear hb7
    go_wp2_with fail
    go_ret
    exact ⟨rfl, HB7.out⟩
  · subst h0
    have hok : ok = R := by
      have h1 := HOK.out
      have h2 := HR.out
      cases ok <;> cases R <;> simp_all
    subst hok
    have hrf : ok = true := HR.out.2 hc
    subst hrf
    have HSL4 := Lib.hid hsl
    have HTT := Lib.hid htt
    clear hsl htt
    go_wp2_with fail
    refine (C24.out _ HB4.out).mono ?_
    rintro e w5 ⟨rfl, hb5⟩
    have HX5 := Lib.hid (HX4.out.later hb5)
    have HB5 := Lib.hid (HB4.out.trans (hb5.mono HB4.out.size))
    have HSL5 := Lib.hid (HSL4.out.later hb5)
    clear hb5 x0 x1 xf xz HX4 HB4 HSL4
    obtain ⟨x0, x1, xf, xz⟩ := HX5.out.v2
    go_wp2_with fail
    refine (C31.out _ HB5.out (okBk_of ECK.out)).mono ?_
    rintro e w6 ⟨rfl, hb6⟩
    have HX6 := Lib.hid (HX5.out.later hb6)
    have HB6 := Lib.hid (HB5.out.trans (hb6.mono HB5.out.size))
    have HSL6 := Lib.hid (HSL5.out.later hb6)
    clear hb6 x0 x1 xf xz HX5 HB5 HSL5
    obtain ⟨x0, x1, xf, xz⟩ := HX6.out.v2
    go_wp2_with fail
    refine (C38.out _ HB6.out (okBk_of ECK.out) hc).mono ?_
    rintro e w7 ⟨vt2, rs2, rfl, hsl2, hlen2, htt2, hb7⟩
    have hrr : rs2 = rs := TightS.unique (tightS_of (okBk_of ECK.out) hlen HTT.out) (tightS_of (okBk_of ECK.out) hlen2 htt2)
    subst hrr
    have HB7 := Lib.hid (HB6.out.trans (hb7.mono HB6.out.size))
    have HSL7 := Lib.hid (HSL6.out.later hb7)
    have HSL2 := Lib.hid hsl2
    clear hb7 hsl2 htt2 x0 x1 xf xz HX6 HB6 HSL6
    go_wp2_with fail
    refine (ranges_ok _ _ rs2 rs2 0 0 w7 HSL7.out HSL2.out (by unfold rangesP; simp)).mono ?_
    rintro e w8 ⟨rfl, hb8⟩
    have HB8 := Lib.hid (HB7.out.trans (hb8.mono HB7.out.size))
    clear hb8
    go_wp2_with fail
    go_ret
    exact ⟨rfl, HB8.out⟩
end Go.Proofs.Ytlakcghdehdeiaa

/- The law of Minimal, walked. -/
namespace Go.Proofs.Ytlakcghdehdeiaa
open Go Go.Proofs Go.RowKit Go.WideShapes

theorem okWide_cap {P : Program} {w : World} {r : Reach} {base : Nat} {t e : TypeId} {a : Option Addr} {n c : Nat} (ht : P.underlying t = some (.slice e)) (h : Value.okWide P w r base t (.slice a n c)) : n ≤ c := by
  simp only [Value.okWide, ht, Cell.okWide] at h
  cases a with
  | none => cases n <;> cases c <;> simp_all [Cell.ok]
  | some a => simp only [Cell.ok, ht] at h; exact h.1
theorem isMinI_out {b : Bk} {l : List Nat} : IsMinI b (outI l) ↔ IsMinL b l := by
  unfold IsMinI IsMinL ConL
  rw [kI_out]
  have hl : (outI l).length = l.length := by simp
  refine and_congr Iff.rfl ⟨fun h j hj => ?_, fun h j hj => ?_⟩
  · have := h j (by rw [hl]; exact hj)
    rwa [lessOf_out, kI_out] at this
  · have := h j (by rw [hl] at hj; exact hj)
    rwa [lessOf_out, kI_out]
def cmR (b : Bk) (L : List Int) (R2 : Bool) : Int := if cmE b L ≠ 0 then cmE b L else if R2 then 0 else 18
theorem ckMin48r (w : World) (v1 v2 u : Value) (b : Bk) (L : List Int) (hv : BkR w w.heap.size v1 v2 b) (hu : Sl encI 1 w w.heap.size u L) (R2 : Bool) (hR2 : R2 = true ↔ IsMinI b L) :
    Calls Try.prog 48 #[.agg #[v1, v2], u] w (Ret (.int .i64 (cmR b L R2)) w) := by
  refine (ckMin48 w v1 v2 u b L hv hu).mono ?_
  rintro e w' ⟨hb, h | ⟨h0, l, rfl, hl, hn, h⟩⟩
  · refine ⟨?_, hb⟩
    rw [h.2, cmR, if_pos h.1]
  · refine ⟨?_, hb⟩
    rw [cmR, if_neg (by rw [h0]; simp)]
    rcases h with ⟨h1, h2⟩ | ⟨h1, h2⟩
    · rw [if_pos (hR2.2 (isMinI_out.2 h1))]; exact h2
    · rw [if_neg (fun h => h1 (isMinI_out.1 (hR2.1 h)))]; exact h2

set_option maxRecDepth 100000 in
set_option maxHeartbeats 1000000 in
theorem minimal13_aside (v1 v2 : Value) (a : Option Addr) (n c : Nat) (w : World) (h : AsideB w (.agg #[v1, v2])) (hs : (∃ a n c, v1 = .slice a n c) ∧ ∃ a n c, v2 = .slice a n c) :
    Calls Try.prog 13 #[.agg #[v1, v2], .slice a n c] w (Ret (.bool true) w) := by
  obtain ⟨⟨a1, n1, c1, rfl⟩, a2, n2, c2, rfl⟩ := hs
  have H := Lib.hid h
  clear h
  go_enter Try.func13, Try.ntmps13
  go_wp2_with fail
  refine (awake16 _).mono ?_
  rintro e w1 ⟨rfl, hb1⟩
  have HX := Lib.hid ((Box.new w #[.slice a1 n1 c1, .slice a2 n2 c2] 38).later hb1)
  have HB1 := Lib.hid (((Below.refl w.heap.size w).alloc (Nat.le_refl _) (.cells #[.slice a1 n1 c1, .slice a2 n2 c2] 38)).trans (hb1.mono (by simp)))
  clear hb1
  obtain ⟨x0, x1, xf, xz⟩ := HX.out.v2
  go_wp2_with fail
  refine (H.out _ HB1.out).mono ?_
  rintro e w2 ⟨rfl, hb2⟩
  have HB2 := Lib.hid (HB1.out.trans (hb2.mono HB1.out.size))
  clear hb2 x0 x1 xf xz
  go_wp2_with fail
  refine (awake16 _).mono ?_
  rintro e w3 ⟨rfl, hb3⟩
  have HB3 := Lib.hid (HB2.out.trans (hb3.mono HB2.out.size))
  clear hb3
  go_wp2_with fail
  go_ret
  exact ⟨rfl, HB3.out⟩

set_option maxRecDepth 100000 in
set_option maxHeartbeats 1000000 in
theorem minimal13_many (v1 v2 : Value) (a : Option Addr) (n c : Nat) (w : World) (b : Bk) (hv : BkR w w.heap.size v1 v2 b) (hhv : heavyB b = false) (hn : n ≤ 9223372036854775807) (hbig : 20 < n) :
    Calls Try.prog 13 #[.agg #[v1, v2], .slice a n c] w (Ret (.bool true) w) := by
  have H := Lib.hid (fun (w1 : World) (hb : Below w.heap.size w w1) => heavy23 v1 v2 b w1 (hv.later hb))
  rw [hhv] at H
  obtain ⟨⟨a1, n1, hv1, hl1, hA1⟩, ⟨a2, n2, hv2, hl2, hA2⟩, hids⟩ := hv
  subst hv1 hv2
  clear hA1 hA2 hids hhv
  have hb20 : decide ((20 : Int) < (n : Int)) = true := decide_eq_true (by omega)
  go_enter Try.func13, Try.ntmps13
  go_wp2_with fail
  refine (awake16 _).mono ?_
  rintro e w1 ⟨rfl, hb1⟩
  have HX := Lib.hid ((Box.new w #[.slice a1 b.st.length n1, .slice a2 b.ts.length n2] 38).later hb1)
  have HB1 := Lib.hid (((Below.refl w.heap.size w).alloc (Nat.le_refl _) (.cells #[.slice a1 b.st.length n1, .slice a2 b.ts.length n2] 38)).trans (hb1.mono (by simp)))
  clear hb1
  obtain ⟨x0, x1, xf, xz⟩ := HX.out.v2
  go_wp2_with fail
  refine (H.out _ HB1.out).mono ?_
  rintro e w2 ⟨rfl, hb2⟩
  have HB2 := Lib.hid (HB1.out.trans (hb2.mono HB1.out.size))
  clear hb2 x0 x1 xf xz
  go_wp2_with fail
  refine (awake16 _).mono ?_
  rintro e w3 ⟨rfl, hb3⟩
  have HB3 := Lib.hid (HB2.out.trans (hb3.mono HB2.out.size))
  clear hb3
  go_wp2_with fail
  go_ret
  exact ⟨rfl, HB3.out⟩

set_option maxRecDepth 100000 in
set_option maxHeartbeats 1000000 in
theorem minimal13 (v1 v2 : Value) (a3 : Option Addr) (n3 : Nat) (w : World) (b : Bk) (ps : List Int) (hv : BkR w w.heap.size v1 v2 b) (hu : Sl encI 1 w w.heap.size (.slice a3 ps.length n3) ps) (hc3 : ps.length ≤ n3) (hhv : heavyB b = false) (hpl : ps.length ≤ 20) :
    Calls Try.prog 13 #[.agg #[v1, v2], .slice a3 ps.length n3] w (Ret (.bool true) w) := by
  obtain ⟨R, hR⟩ : ∃ R : Bool, R = true ↔ Con b := by
    classical
    exact ⟨decide (Con b), by simp⟩
  obtain ⟨R2, hR2⟩ : ∃ R : Bool, R = true ↔ IsMinI b ps := by
    classical
    exact ⟨decide (IsMinI b ps), by simp⟩
  have H := Lib.hid (fun (w1 : World) (hb : Below w.heap.size w w1) => heavy23 v1 v2 b w1 (hv.later hb))
  have C24 := Lib.hid (fun (w1 : World) (hb : Below w.heap.size w w1) => ckBook24 v1 v2 b w1 (hv.later hb))
  have C47 := Lib.hid (fun (w1 : World) (hb : Below w.heap.size w w1) => minimal47 w1 v1 v2 b (hv.later hb))
  have C48 := Lib.hid (fun (w1 : World) (hb : Below w.heap.size w w1) => ckMin48r w1 v1 v2 _ b ps (hv.later hb) (hu.later hb) R2 hR2)
  have C30 := Lib.hid (fun (w1 : World) (hb : Below w.heap.size w w1) => ckNums30 _ ps b.ts.length w1 (hu.later hb))
  have C31 := Lib.hid (fun (w1 : World) (hb : Below w.heap.size w w1) (hok : OkBk b) => isCon31 w1 v1 v2 b hok (hv.later hb) R hR)
  have C50 := Lib.hid (fun (w1 : World) (hb : Below w.heap.size w w1) (hok : OkBk b) => minimal50 w1 v1 v2 b hok (hv.later hb))
  have C51 := Lib.hid (fun (w1 : World) (hb : Below w.heap.size w w1) (hok : OkBk b) => isMin51 w1 v1 v2 a3 n3 b ps hok (hv.later hb) hc3 (by omega) (hu.later hb) R2 hR2)
  rw [hhv] at H
  have HR := Lib.hid hR
  have HR2 := Lib.hid hR2
  clear hR hR2 hhv hc3
  obtain ⟨⟨a1, n1, hv1, hl1, hA1⟩, ⟨a2, n2, hv2, hl2, hA2⟩, hids⟩ := hv
  subst hv1 hv2
  clear hA1 hA2 hids hu
  obtain ⟨CK, hCK⟩ : ∃ CK, ckBook b = CK := ⟨_, rfl⟩
  obtain ⟨CN, hCN⟩ : ∃ CN, ckNums ps b.ts.length = CN := ⟨_, rfl⟩
  obtain ⟨CC, hCC⟩ : ∃ CC, cmR b ps R2 = CC := ⟨_, rfl⟩
  have hCE : cmE b ps = firstNZ [CK, CN] := by unfold cmE; rw [hCK, hCN]
  have HCC : Hid (CC = if firstNZ [CK, CN] ≠ 0 then firstNZ [CK, CN] else if R2 then 0 else 18) := Lib.hid (by rw [← hCC, ← hCE]; rfl)
  obtain ⟨m, hm⟩ : ∃ m, b.ts.length = m := ⟨_, rfl⟩
  obtain ⟨m1, hm1⟩ : ∃ m, b.st.length = m := ⟨_, rfl⟩
  rw [hCK] at C24
  rw [hCN, hm] at C30
  rw [hCC] at C48
  rw [hm, hm1] at C47 C48 C31 C50 C51 C24 H ⊢
  rw [hm] at hl2
  rw [hm1] at hl1
  have ECK := Lib.hid hCK
  have ECN := Lib.hid hCN
  clear hCK hCN hCE hCC hm hm1
  have hb20 : decide ((20 : Int) < (ps.length : Int)) = false := decide_eq_false (by omega)
  go_enter Try.func13, Try.ntmps13
  go_wp2_with fail
  refine (awake16 _).mono ?_
  rintro e w1 ⟨rfl, hb1⟩
  have HX1 := Lib.hid ((Box.new w #[.slice a1 m1 n1, .slice a2 m n2] 38).later hb1)
  have HB1 := Lib.hid (((Below.refl w.heap.size w).alloc (Nat.le_refl _) (.cells #[.slice a1 m1 n1, .slice a2 m n2] 38)).trans (hb1.mono (by simp)))
  clear hb1
  obtain ⟨x0, x1, xf, xz⟩ := HX1.out.v2
  go_wp2_with fail
  refine (H.out _ HB1.out).mono ?_
  rintro e w2 ⟨rfl, hb2⟩
  have HX2 := Lib.hid (HX1.out.later hb2)
  have HB2 := Lib.hid (HB1.out.trans (hb2.mono HB1.out.size))
  clear hb2 x0 x1 xf xz HX1 HB1
  obtain ⟨x0, x1, xf, xz⟩ := HX2.out.v2
  go_wp2_with fail
  refine (C24.out _ HB2.out).mono ?_
  rintro e w3 ⟨rfl, hb3⟩
  have HX3 := Lib.hid (HX2.out.later hb3)
  have HB3 := Lib.hid (HB2.out.trans (hb3.mono HB2.out.size))
  clear hb3 x0 x1 xf xz HX2 HB2
  obtain ⟨x0, x1, xf, xz⟩ := HX3.out.v2
  by_cases h0 : CK = 0
  · subst h0
    by_cases hq1 : 6 < m1
    · have b1 : decide ((6 : Int) < (m1 : Int)) = true := decide_eq_true (by omega)
      go_wp2_with fail
      go_ret
      exact ⟨rfl, HB3.out⟩
    · have b1 : decide ((6 : Int) < (m1 : Int)) = false := decide_eq_false (by omega)
      by_cases hq2 : 7 < m
      · have b2 : decide ((7 : Int) < (m : Int)) = true := decide_eq_true (by omega)
        go_wp2_with fail
        go_ret
        exact ⟨rfl, HB3.out⟩
      · have b2 : decide ((7 : Int) < (m : Int)) = false := decide_eq_false (by omega)
        go_wp2_with fail
        refine (C47.out _ HB3.out).mono ?_
        rintro e w4 ⟨hb4, hor⟩
        rw [ECK.out] at hor
        have HX4 := Lib.hid (HX3.out.later hb4)
        have HB4 := Lib.hid (HB3.out.trans (hb4.mono HB3.out.size))
        clear hb4 x0 x1 xf xz HX3 HB3
        obtain ⟨x0, x1, xf, xz⟩ := HX4.out.v2
        rcases hor with ⟨hx, _⟩ | ⟨_, hc, rfl⟩ | ⟨_, hnc, vl, rfl, hsl⟩
        · exact absurd rfl hx
        · have hrt : R = true := HR.out.2 hc
          subst hrt
          go_wp2_with fail
          refine (C48.out _ HB4.out).mono ?_
          rintro e w5 ⟨rfl, hb5⟩
          have HX5 := Lib.hid (HX4.out.later hb5)
          have HB5 := Lib.hid (HB4.out.trans (hb5.mono HB4.out.size))
          clear hb5 x0 x1 xf xz HX4 HB4
          obtain ⟨x0, x1, xf, xz⟩ := HX5.out.v2
          go_wp2_with fail
          refine (C31.out _ HB5.out (okBk_of ECK.out)).mono ?_
          rintro e w6 ⟨rfl, hb6⟩
          have HX6 := Lib.hid (HX5.out.later hb6)
          have HB6 := Lib.hid (HB5.out.trans (hb6.mono HB5.out.size))
          clear hb6 x0 x1 xf xz HX5 HB5
          obtain ⟨x0, x1, xf, xz⟩ := HX6.out.v2
          go_wp2_with fail
          refine (C30.out _ HB6.out).mono ?_
          rintro e w7 ⟨rfl, hb7⟩
          have HX7 := Lib.hid (HX6.out.later hb7)
          have HB7 := Lib.hid (HB6.out.trans (hb7.mono HB6.out.size))
          clear hb7 x0 x1 xf xz HX6 HB6
          obtain ⟨x0, x1, xf, xz⟩ := HX7.out.v2
          by_cases hn0 : CN = 0
          · subst hn0
            go_wp2_with fail
            refine (C51.out _ HB7.out (okBk_of ECK.out)).mono ?_
            rintro e w8 ⟨rfl, hb8⟩
            have HX8 := Lib.hid (HX7.out.later hb8)
            have HB8 := Lib.hid (HB7.out.trans (hb8.mono HB7.out.size))
            clear hb8 x0 x1 xf xz HX7 HB7
            obtain ⟨x0, x1, xf, xz⟩ := HX8.out.v2
            cases R2 with
            | true =>
              have hcc : CC = 0 := by rw [HCC.out]; simp [firstNZ]
              subst hcc
              go_wp2_with fail
              refine (when27 false 18 _).mono ?_
              rintro e wz ⟨rfl, rfl⟩
              simp only [whenB]
              go_wp2_with fail
              go_ret
              exact ⟨rfl, HB8.out⟩
            | false =>
              have hcc : CC = 18 := by rw [HCC.out]; simp [firstNZ]
              subst hcc
              go_wp2_with fail
              refine (when27 true 18 _).mono ?_
              rintro e wz ⟨rfl, rfl⟩
              simp only [whenB]
              go_wp2_with fail
              go_ret
              exact ⟨rfl, HB8.out⟩
          · have hcc : CC = CN := by rw [HCC.out]; simp [firstNZ, hn0]
            subst hcc
            have k1 : (CC == 0) = false := beq_eq_false_iff_ne.2 hn0
            have k2 : (CC == CC) = true := beq_self_eq_true _
            go_wp2_with fail
            go_ret
            exact ⟨rfl, HB7.out⟩
        · have hrf : R = false := by
            cases R with
            | false => rfl
            | true => exact absurd (HR.out.1 rfl) hnc
          subst hrf
          have HS4 := Lib.hid hsl
          clear hsl
          go_wp2_with fail
          refine (C48.out _ HB4.out).mono ?_
          rintro e w5 ⟨rfl, hb5⟩
          have HX5 := Lib.hid (HX4.out.later hb5)
          have HB5 := Lib.hid (HB4.out.trans (hb5.mono HB4.out.size))
          have HS5 := Lib.hid (HS4.out.later hb5)
          clear hb5 x0 x1 xf xz HX4 HB4 HS4
          obtain ⟨x0, x1, xf, xz⟩ := HX5.out.v2
          go_wp2_with fail
          refine (C31.out _ HB5.out (okBk_of ECK.out)).mono ?_
          rintro e w6 ⟨rfl, hb6⟩
          have HX6 := Lib.hid (HX5.out.later hb6)
          have HB6 := Lib.hid (HB5.out.trans (hb6.mono HB5.out.size))
          have HS6 := Lib.hid (HS5.out.later hb6)
          clear hb6 x0 x1 xf xz HX5 HB5 HS5
          obtain ⟨x0, x1, xf, xz⟩ := HX6.out.v2
          go_wp2_with fail
          refine (C50.out _ HB6.out (okBk_of ECK.out)).mono ?_
          rintro e w7 ⟨v50, rfl, hs50, hb7⟩
          have HQ7 := Lib.hid hs50
          clear hs50
          have HX7 := Lib.hid (HX6.out.later hb7)
          have HB7 := Lib.hid (HB6.out.trans (hb7.mono HB6.out.size))
          have HS7 := Lib.hid (HS6.out.later hb7)
          clear hb7 x0 x1 xf xz HX6 HB6 HS6
          obtain ⟨x0, x1, xf, xz⟩ := HX7.out.v2
          go_wp2_with fail
          refine (sameInts49 _ _ _ _ _ HS7.out HQ7.out).mono ?_
          rintro e w8 ⟨rfl, hb8⟩
          rw [decide_eq_true (rfl : minOf b = minOf b)]
          have HX8 := Lib.hid (HX7.out.later hb8)
          have HB8 := Lib.hid (HB7.out.trans (hb8.mono HB7.out.size))
          have HS8 := Lib.hid (HS7.out.later hb8)
          have HQ8 := Lib.hid (HQ7.out.later hb8)
          clear hb8 x0 x1 xf xz HX7 HB7 HS7 HQ7
          obtain ⟨x0, x1, xf, xz⟩ := HX8.out.v2
          clear HS8 HQ8
          go_wp2_with fail
          refine (C30.out _ HB8.out).mono ?_
          rintro e w9 ⟨rfl, hb9⟩
          have HX9 := Lib.hid (HX8.out.later hb9)
          have HB9 := Lib.hid (HB8.out.trans (hb9.mono HB8.out.size))
          clear hb9 x0 x1 xf xz HX8 HB8
          obtain ⟨x0, x1, xf, xz⟩ := HX9.out.v2
          by_cases hn0 : CN = 0
          · subst hn0
            go_wp2_with fail
            refine (C51.out _ HB9.out (okBk_of ECK.out)).mono ?_
            rintro e w10 ⟨rfl, hb10⟩
            have HX10 := Lib.hid (HX9.out.later hb10)
            have HB10 := Lib.hid (HB9.out.trans (hb10.mono HB9.out.size))
            clear hb10 x0 x1 xf xz HX9 HB9
            obtain ⟨x0, x1, xf, xz⟩ := HX10.out.v2
            cases R2 with
            | true =>
              have hcc : CC = 0 := by rw [HCC.out]; simp [firstNZ]
              subst hcc
              go_wp2_with fail
              refine (when27 false 18 _).mono ?_
              rintro e wz ⟨rfl, rfl⟩
              simp only [whenB]
              go_wp2_with fail
              go_ret
              exact ⟨rfl, HB10.out⟩
            | false =>
              have hcc : CC = 18 := by rw [HCC.out]; simp [firstNZ]
              subst hcc
              go_wp2_with fail
              refine (when27 true 18 _).mono ?_
              rintro e wz ⟨rfl, rfl⟩
              simp only [whenB]
              go_wp2_with fail
              go_ret
              exact ⟨rfl, HB10.out⟩
          · have hcc : CC = CN := by rw [HCC.out]; simp [firstNZ, hn0]
            subst hcc
            have k1 : (CC == 0) = false := beq_eq_false_iff_ne.2 hn0
            have k2 : (CC == CC) = true := beq_self_eq_true _
            go_wp2_with fail
            go_ret
            exact ⟨rfl, HB9.out⟩
  · have k1 : (CK == 0) = false := beq_eq_false_iff_ne.2 h0
    have k2 : (CK == CK) = true := beq_self_eq_true _
    have hcc : CC = CK := by rw [HCC.out]; simp [firstNZ, h0]
    subst hcc
    go_wp2_with fail
    refine (C47.out _ HB3.out).mono ?_
    rintro e w4 ⟨hb4, hor⟩
    rw [ECK.out] at hor
    rcases hor with ⟨_, rfl⟩ | ⟨hx, _⟩ | ⟨hx, _⟩
    rotate_left
    · exact absurd hx h0
    · exact absurd hx h0
    have HX4 := Lib.hid (HX3.out.later hb4)
    have HB4 := Lib.hid (HB3.out.trans (hb4.mono HB3.out.size))
    clear hb4 x0 x1 xf xz HX3 HB3
    obtain ⟨x0, x1, xf, xz⟩ := HX4.out.v2
    go_wp2_with fail
    refine (C48.out _ HB4.out).mono ?_
    rintro e w5 ⟨rfl, hb5⟩
    have HX5 := Lib.hid (HX4.out.later hb5)
    have HB5 := Lib.hid (HB4.out.trans (hb5.mono HB4.out.size))
    clear hb5 x0 x1 xf xz HX4 HB4
    obtain ⟨x0, x1, xf, xz⟩ := HX5.out.v2
    go_wp2_with fail
    go_ret
    exact ⟨rfl, HB5.out⟩
end Go.Proofs.Ytlakcghdehdeiaa

namespace Go.Proofs.Ytlakcghdehdeiaa
open Go Go.Proofs Go.RowKit Go.ChangeShapes Go.WideShapes Go.ChangeAt Go.Joins Go.Deep

set_option maxRecDepth 100000 in
theorem weighMinimal_contract (H : Type) (enc : TypeId × Value → H) (W : World) (base : Nat) (args : Array Value) (ds gs : List (DataW H)) (before : List MemPlace)
    (hval : ∀ (j : Nat) t v, Try.f13.params[j]? = some t → args[j]? = some v → Value.okWide Try.prog W .any base t v)
    (hW : DataW.Whole enc Try.prog Try.f13.params.toList Rows.weighMinimalSpec.vars false W args.toList ds gs before) :
    Calls Try.prog 13 args W fun e W' => ∃ v, e = .returned v ∧ Rows.weighMinimalSpec.post enc Try.prog Try.f13 false true false false W args v W' := by
  have hW' := hW
  obtain ⟨p, q, hA0, hV, rfl, hfz, hnd⟩ := hW
  have hA : DataW.TrodAll enc Try.prog W 0 (fun _ => true) true Try.f13.params.toList args.toList ds p := hA0
  rw [Try.params13] at hA hval
  obtain ⟨v0, v1, d0, d1, p0, p1, rfl, rfl, rfl, h0, h1⟩ := trodAll_two hA
  obtain ⟨a0, n0, c0, d0, m0, e0, rfl, hn0, hm0, hl0⟩ := bk_open (hval 0 38 v0 rfl rfl) h0
  obtain ⟨a1, n1, c1, rfl⟩ := okWide_slice Try.underlying22 (hval 1 22 v1 rfl rfl)
  obtain ⟨hn1, hl1⟩ := sl_ints h1
  have key : Calls Try.prog 13 #[.agg #[.slice a0 n0 c0, .slice d0 m0 e0], .slice a1 n1 c1] W (Ret (.bool true) W) := by
    by_cases hbig : 40 < n0 ∨ 132 < m0
    · exact minimal13_aside _ _ a1 n1 c1 W (asideB_big a0 d0 n0 c0 m0 e0 W hn0 hm0 hbig) ⟨⟨_, _, _, rfl⟩, _, _, _, rfl⟩
    · obtain ⟨b, hb1, hb2, hb, _⟩ := hl0 (by omega) (by omega)
      by_cases hhv : heavyB b = true
      · exact minimal13_aside _ _ a1 n1 c1 W (asideB_of hb hhv) ⟨⟨_, _, _, rfl⟩, _, _, _, rfl⟩
      · have hhv2 := eq_false_of_ne_true hhv
        by_cases hbig2 : 20 < n1
        · exact minimal13_many _ _ a1 n1 c1 W b hb hhv2 hn1 hbig2
        · obtain ⟨l, hll, hs, _⟩ := hl1 (by omega)
          subst hll
          exact minimal13 _ _ a1 c1 W b l hb hs (okWide_cap Try.underlying22 (hval 1 22 _ rfl rfl)) hhv2 (by omega)
  refine key.mono fun e W' ⟨he, hb⟩ => ⟨_, he, ?_⟩
  exact law_post rfl rfl rfl (by rw [Try.params13]; decide) hW' rfl rfl rfl hb

set_option maxRecDepth 100000 in
theorem weighMinimal_lifted (os : Os) (started : os.Started) (H : Type) (enc : TypeId × Value → H) :
    ReturnsInHanded {} Try.checked os 13 .any (Rows.weighMinimalSpec.pre6 enc Try.prog Try.f13 Rows.weighMinimalRow.domain false) (Rows.weighMinimalSpec.post enc Try.prog Try.f13 false true false false) := by
  refine returnsInHanded_of_change (C := Try.checked) Try.own started (by kernel_rfl) Try.func13
    (ChangeSpec.witness6 (enc := enc) (C := Try.checked) false ⟨#[], #[.agg #[.slice none 0 0, .slice none 0 0], .slice none 0 0], []⟩ 8 (by kernel_rfl) (by kernel_rfl) (by kernel_rfl) (by kernel_rfl)) ?_
  intro W base args ds gs before hval hW _ _
  exact weighMinimal_contract H enc W base args ds gs before hval hW

theorem weighMinimal_holds : Rows.WeighMinimalSaid :=
  OpenClaim.holds_of_wide 13 Try.f13 rfl rfl rfl rfl rfl rfl rfl ⟨rfl, rfl, rfl, rfl, rfl⟩ rfl rfl rfl rfl rfl (by kernel_rfl) Try.func13 (by kernel_rfl)
    (of_decide_eq_true (by kernel_rfl)) (by unfold Func.isWrapper; first | (rw [if_pos (by decide +kernel)]; kernel_rfl) | (rw [if_neg (by decide +kernel)]; exact ⟨rfl, rfl⟩))
    (fun os started H enc _ => weighMinimal_lifted os started H enc)
end Go.Proofs.Ytlakcghdehdeiaa
