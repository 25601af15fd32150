/- The law WeighSettles returns true for every input, and leaves its arguments as they were. No conditions. -/
import Derived.Test.YtlakcghdehdeiaaLib19
import Derived.Test.YtlakcghdehdeiaaLib14
import Derived.Test.YtlakcghdehdeiaaLib15
import Derived.Test.YtlakcghdehdeiaaLib20
import Derived.Test.YtlakcghdehdeiaaLib21
import Derived.Deep.AppendSrc
import Derived.Test.YtlakcghdehdeiaaLib16
import Derived.Test.YtlakcghdehdeiaaLib17
import Derived.RegionTactic
import Derived.BigRegion
set_option linter.unusedVariables false
set_option linter.unusedSimpArgs false

/- The law of Tighten, walked. -/
namespace Go.Proofs.Ytlakcghdehdeiaa
open Go Go.Proofs Go.RowKit

/-- A book that the laws leave aside. -/
def AsideB (w : World) (v : Value) : Prop := ∀ w1, Below w.heap.size w w1 → Calls Try.prog 23 #[v] w1 (Ret (.bool true) w1)
theorem asideB_big (a1 a2 : Option Addr) (n1 c1 n2 c2 : Nat) (w : World) (h1 : n1 ≤ 9223372036854775807) (h2 : n2 ≤ 9223372036854775807) (hb : 40 < n1 ∨ 132 < n2) : AsideB w (.agg #[.slice a1 n1 c1, .slice a2 n2 c2]) :=
  fun w1 _ => heavy23_big a1 a2 n1 c1 n2 c2 w1 h1 h2 hb
theorem asideB_of {v1 v2 : Value} {b : Bk} {w : World} (hv : BkR w w.heap.size v1 v2 b) (h : heavyB b = true) : AsideB w (.agg #[v1, v2]) := fun w1 hb => by
  have := heavy23 v1 v2 b w1 (hv.later hb)
  rwa [h] at this

set_option maxRecDepth 100000 in
set_option maxHeartbeats 1000000 in
theorem tightens8_aside (v1 v2 : Value) (w : World) (h : AsideB w (.agg #[v1, v2])) (hs : (∃ a n c, v1 = .slice a n c) ∧ ∃ a n c, v2 = .slice a n c) :
    Calls Try.prog 8 #[.agg #[v1, v2]] w (Ret (.bool true) w) := by
  obtain ⟨⟨a1, n1, c1, rfl⟩, a2, n2, c2, rfl⟩ := hs
  have H := Lib.hid h
  clear h
  go_enter Try.func8, Try.ntmps8
  go_wp2_with fail
  refine (awake16 _).mono ?_
  rintro e w1 ⟨rfl, hb1⟩
  have HX := Lib.hid ((Box.new w #[.slice a1 n1 c1, .slice a2 n2 c2] 38).later hb1)
  have HB1 := Lib.hid (((Below.refl w.heap.size w).alloc (Nat.le_refl _) (.cells #[.slice a1 n1 c1, .slice a2 n2 c2] 38)).trans (hb1.mono (by simp)))
  clear hb1
  obtain ⟨x0, x1, xf, xz⟩ := HX.out.v2
  go_wp2_with fail
  refine (H.out _ HB1.out).mono ?_
  rintro e w2 ⟨rfl, hb2⟩
  have HB2 := Lib.hid (HB1.out.trans (hb2.mono HB1.out.size))
  clear hb2 x0 x1 xf xz
  go_wp2_with fail
  refine (awake16 _).mono ?_
  rintro e w3 ⟨rfl, hb3⟩
  have HB3 := Lib.hid (HB2.out.trans (hb3.mono HB2.out.size))
  clear hb3
  go_wp2_with fail
  go_ret
  exact ⟨rfl, HB3.out⟩

theorem ranges_ok (v r : Value) (l lr : List Rg) (e n : Int) (w : World) (hl : Sl Rg.enc 2 w w.heap.size v l) (hr : Sl Rg.enc 2 w w.heap.size r lr) (h : rangesP l e n lr) : Calls Try.prog 21 #[v, .int .i64 e, .int .i64 n, r] w (Ret (.bool true) w) := by
  have := ranges21 v r l lr e n w hl hr
  rwa [decide_eq_true h] at this

set_option maxRecDepth 100000 in
set_option maxHeartbeats 1000000 in
theorem tightens8 (v1 v2 : Value) (w : World) (b : Bk) (hv : BkR w w.heap.size v1 v2 b) (hhv : heavyB b = false) :
    Calls Try.prog 8 #[.agg #[v1, v2]] w (Ret (.bool true) w) := by
  obtain ⟨R, hR⟩ : ∃ R : Bool, R = true ↔ Con b := by
    classical
    exact ⟨decide (Con b), by simp⟩
  have H := Lib.hid (fun (w1 : World) (hb : Below w.heap.size w w1) => heavy23 v1 v2 b w1 (hv.later hb))
  have C24 := Lib.hid (fun (w1 : World) (hb : Below w.heap.size w w1) => ckBook24 v1 v2 b w1 (hv.later hb))
  have C37 := Lib.hid (fun (w1 : World) (hb : Below w.heap.size w w1) => isCon37 w1 v1 v2 b (hv.later hb))
  have C35 := Lib.hid (fun (w1 : World) (hb : Below w.heap.size w w1) => tighten35 w1 v1 v2 b (hv.later hb))
  have C31 := Lib.hid (fun (w1 : World) (hb : Below w.heap.size w w1) (hok : OkBk b) => isCon31 w1 v1 v2 b hok (hv.later hb) R hR)
  have C38 := Lib.hid (fun (w1 : World) (hb : Below w.heap.size w w1) (hok : OkBk b) (hc : Con b) => tighten38 w1 v1 v2 b hok (hv.later hb) hc)
  rw [hhv] at H
  have HR := Lib.hid hR
  clear hR hhv
  obtain ⟨⟨a1, n1, hv1, hl1, hA1⟩, ⟨a2, n2, hv2, hl2, hA2⟩, hids⟩ := hv
  subst hv1 hv2
  clear hA1 hA2 hids
  obtain ⟨CK, hCK⟩ : ∃ CK, ckBook b = CK := ⟨_, rfl⟩
  rw [hCK] at C24
  have ECK := Lib.hid hCK
  clear hCK
  go_enter Try.func8, Try.ntmps8
  go_wp2_with fail
  refine (awake16 _).mono ?_
  rintro e w1 ⟨rfl, hb1⟩
  have HX1 := Lib.hid ((Box.new w #[.slice a1 b.st.length n1, .slice a2 b.ts.length n2] 38).later hb1)
  have HB1 := Lib.hid (((Below.refl w.heap.size w).alloc (Nat.le_refl _) (.cells #[.slice a1 b.st.length n1, .slice a2 b.ts.length n2] 38)).trans (hb1.mono (by simp)))
  clear hb1
  obtain ⟨x0, x1, xf, xz⟩ := HX1.out.v2
  go_wp2_with fail
  refine (H.out _ HB1.out).mono ?_
  rintro e w2 ⟨rfl, hb2⟩
  have HX2 := Lib.hid (HX1.out.later hb2)
  have HB2 := Lib.hid (HB1.out.trans (hb2.mono HB1.out.size))
  clear hb2 x0 x1 xf xz HX1 HB1
  obtain ⟨x0, x1, xf, xz⟩ := HX2.out.v2
  go_wp2_with fail
  refine (C37.out _ HB2.out).mono ?_
  rintro e w3 ⟨ok, rfl, hb3, hok⟩
  have HX3 := Lib.hid (HX2.out.later hb3)
  have HB3 := Lib.hid (HB2.out.trans (hb3.mono HB2.out.size))
  rw [ECK.out] at hok ⊢
  have HOK := Lib.hid hok
  clear hok hb3 x0 x1 xf xz HX2 HB2
  obtain ⟨x0, x1, xf, xz⟩ := HX3.out.v2
  go_wp2_with fail
  refine (C35.out _ HB3.out).mono ?_
  rintro e w4 ⟨hb4, hor⟩
  rw [ECK.out] at hor
  have HOR := Lib.hid hor
  have HX4 := Lib.hid (HX3.out.later hb4)
  have HB4 := Lib.hid (HB3.out.trans (hb4.mono HB3.out.size))
  clear hor hb4 x0 x1 xf xz HX3 HB3
  obtain ⟨x0, x1, xf, xz⟩ := HX4.out.v2
  rcases HOR.out with ⟨h0, rfl⟩ | ⟨h0, hc, rfl⟩ | ⟨h0, hc, vt, rs, rfl, hsl, hlen, htt⟩
  · have hok : ok = false := by
      cases ok with
      | false => rfl
      | true => exact absurd (HOK.out.1 rfl).1 h0
    subst hok
    go_wp2_with fail
    refine (C24.out _ HB4.out).mono ?_
    rintro e w5 ⟨rfl, hb5⟩
    have HB5 := Lib.hid (HB4.out.trans (hb5.mono HB4.out.size))
    clear hb5 x0 x1 xf xz HX4 HB4
    have k0 : (CK == 0) = false := beq_eq_false_iff_ne.2 h0
    have k1 : (CK == CK) = true := beq_self_eq_true _
    go_wp2_with fail
    refine (ranges_ok _ _ [] [] CK CK w5 (Sl.nil _ _ _ _ _ _) (Sl.nil _ _ _ _ _ _) (by unfold rangesP; rw [if_pos h0]; exact ⟨rfl, rfl⟩)).mono ?_
    rintro e w6 ⟨rfl, hb6⟩
    have HB6 := Lib.hid (HB5.out.trans (hb6.mono HB5.out.size))
    clear hb6
    go_wp2_with fail
    go_ret
    exact ⟨rfl, HB6.out⟩
  · subst h0
    have hok : ok = R := by
      have h1 := HOK.out
      have h2 := HR.out
      cases ok <;> cases R <;> simp_all
    subst hok
    have hrf : ok = false := by
      cases ok with
      | false => rfl
      | true => exact absurd (HR.out.1 rfl) hc
    subst hrf
    go_wp2_with fail
    refine (C24.out _ HB4.out).mono ?_
    rintro e w5 ⟨rfl, hb5⟩
    have HX5 := Lib.hid (HX4.out.later hb5)
    have HB5 := Lib.hid (HB4.out.trans (hb5.mono HB4.out.size))
    clear hb5 x0 x1 xf xz HX4 HB4
    obtain ⟨x0, x1, xf, xz⟩ := HX5.out.v2
    go_wp2_with fail
    refine (C31.out _ HB5.out (okBk_of ECK.out)).mono ?_
    rintro e w6 ⟨rfl, hb6⟩
    have HB6 := Lib.hid (HB5.out.trans (hb6.mono HB5.out.size))
    clear hb6 x0 x1 xf xz HX5 HB5
    go_wp2_with fail
    refine (ranges_ok _ _ [] [] 15 15 w6 (Sl.nil _ _ _ _ _ _) (Sl.nil _ _ _ _ _ _) (by unfold rangesP; simp)).mono ?_
    rintro e w7 ⟨rfl, hb7⟩
    have HB7 := Lib.hid (HB6.out.trans (hb7.mono HB6.out.size))
    clear hb7
    go_wp2_with fail
    go_ret
    exact ⟨rfl, HB7.out⟩
  · subst h0
    have hok : ok = R := by
      have h1 := HOK.out
      have h2 := HR.out
      cases ok <;> cases R <;> simp_all
    subst hok
    have hrf : ok = true := HR.out.2 hc
    subst hrf
    have HSL4 := Lib.hid hsl
    have HTT := Lib.hid htt
    clear hsl htt
    go_wp2_with fail
    refine (C24.out _ HB4.out).mono ?_
    rintro e w5 ⟨rfl, hb5⟩
    have HX5 := Lib.hid (HX4.out.later hb5)
    have HB5 := Lib.hid (HB4.out.trans (hb5.mono HB4.out.size))
    have HSL5 := Lib.hid (HSL4.out.later hb5)
    clear hb5 x0 x1 xf xz HX4 HB4 HSL4
    obtain ⟨x0, x1, xf, xz⟩ := HX5.out.v2
    go_wp2_with fail
    refine (C31.out _ HB5.out (okBk_of ECK.out)).mono ?_
    rintro e w6 ⟨rfl, hb6⟩
    have HX6 := Lib.hid (HX5.out.later hb6)
    have HB6 := Lib.hid (HB5.out.trans (hb6.mono HB5.out.size))
    have HSL6 := Lib.hid (HSL5.out.later hb6)
    clear hb6 x0 x1 xf xz HX5 HB5 HSL5
    obtain ⟨x0, x1, xf, xz⟩ := HX6.out.v2
    go_wp2_with fail
    refine (C38.out _ HB6.out (okBk_of ECK.out) hc).mono ?_
    rintro e w7 ⟨vt2, rs2, rfl, hsl2, hlen2, htt2, hb7⟩
    have hrr : rs2 = rs := TightS.unique (tightS_of (okBk_of ECK.out) hlen HTT.out) (tightS_of (okBk_of ECK.out) hlen2 htt2)
    subst hrr
    have HB7 := Lib.hid (HB6.out.trans (hb7.mono HB6.out.size))
    have HSL7 := Lib.hid (HSL6.out.later hb7)
    have HSL2 := Lib.hid hsl2
    clear hb7 hsl2 htt2 x0 x1 xf xz HX6 HB6 HSL6
    go_wp2_with fail
    refine (ranges_ok _ _ rs2 rs2 0 0 w7 HSL7.out HSL2.out (by unfold rangesP; simp)).mono ?_
    rintro e w8 ⟨rfl, hb8⟩
    have HB8 := Lib.hid (HB7.out.trans (hb8.mono HB7.out.size))
    clear hb8
    go_wp2_with fail
    go_ret
    exact ⟨rfl, HB8.out⟩
end Go.Proofs.Ytlakcghdehdeiaa

/- The law of Change, walked. -/
namespace Go.Proofs.Ytlakcghdehdeiaa
open Go Go.Proofs Go.RowKit

theorem Together.unique {n : Nat} {l : List Ac} {is : List Nat} {lo hi lo' hi' : Int} (h : Together n l is lo hi) (h' : Together n l is lo' hi') : lo = lo' ∧ hi = hi' ∧ lo ≤ hi := by
  obtain ⟨⟨a, a1, a2, a3⟩, ⟨c, c1, c2, c3⟩, hb⟩ := h
  obtain ⟨⟨a', a1', a2', a3'⟩, ⟨c', c1', c2', c3'⟩, hb'⟩ := h'
  have h1 := hb a' a1' a2'
  have h2 := hb c' c1' c2'
  have h3 := hb' a a1 a2
  have h4 := hb' c c1 c2
  have h5 := hb a a1 a2
  omega
theorem alike_ok (x y : Rg) (e bad : Int) (w : World) (h : alikeB x e bad y = true) : Calls Try.prog 33 #[.agg #[.int .i64 x.lo, .int .i64 x.hi], .int .i64 e, .int .i64 bad, .agg #[.int .i64 y.lo, .int .i64 y.hi]] w (Ret (.bool true) w) := by
  have := alike33 x y e bad w
  rwa [h] at this
/-- What Change returns, the errors of its arguments, whether there is an assignment. -/
def ChOut (b : Bk) (ps : List Int) (x : Rg) (E : Int) : Prop :=
  (chE b ps ≠ 0 ∧ x = z ∧ E = chE b ps) ∨ (chE b ps = 0 ∧ ¬ Con b ∧ x = z ∧ E = 15) ∨ (chE b ps = 0 ∧ Con b ∧ ∃ lo hi, Together b.st.length (arcsOf b) (idx b.ts.length ps) lo hi ∧ ((ckRange ⟨lo, hi⟩ ≠ 0 ∧ x = z ∧ E = 4) ∨ (ckRange ⟨lo, hi⟩ = 0 ∧ x = ⟨lo, hi⟩ ∧ E = 0)))
theorem change_p (w : World) (v1 v2 u : Value) (b : Bk) (ps : List Int) (hv : BkR w w.heap.size v1 v2 b) (hu : Sl encI 1 w w.heap.size u ps) :
    Calls Try.prog 29 #[.agg #[v1, v2], u] w (fun e w' => ∃ x E, e = .returned (.tuple #[.agg #[.int .i64 x.lo, .int .i64 x.hi], .int .i64 E]) ∧ ChOut b ps x E ∧ Below w.heap.size w w') := by
  refine (change29 w v1 v2 u b ps hv hu).mono ?_
  rintro e w' ⟨hb, ⟨h1, rfl⟩ | ⟨h1, h2, rfl⟩ | ⟨h1, h2, lo, hi, h3, ⟨h4, rfl⟩ | ⟨h4, rfl⟩⟩⟩
  · exact ⟨z, _, rfl, .inl ⟨h1, rfl, rfl⟩, hb⟩
  · exact ⟨z, _, rfl, .inr (.inl ⟨h1, h2, rfl, rfl⟩), hb⟩
  · exact ⟨z, _, rfl, .inr (.inr ⟨h1, h2, lo, hi, h3, .inl ⟨h4, rfl, rfl⟩⟩), hb⟩
  · exact ⟨⟨lo, hi⟩, _, rfl, .inr (.inr ⟨h1, h2, lo, hi, h3, .inr ⟨h4, rfl, rfl⟩⟩), hb⟩

set_option maxRecDepth 100000 in
set_option maxHeartbeats 1000000 in
theorem changes5_aside (v1 v2 : Value) (a : Option Addr) (n c : Nat) (w : World) (h : AsideB w (.agg #[v1, v2])) (hs : (∃ a n c, v1 = .slice a n c) ∧ ∃ a n c, v2 = .slice a n c) :
    Calls Try.prog 5 #[.agg #[v1, v2], .slice a n c] w (Ret (.bool true) w) := by
  obtain ⟨⟨a1, n1, c1, rfl⟩, a2, n2, c2, rfl⟩ := hs
  have H := Lib.hid h
  clear h
  go_enter Try.func5, Try.ntmps5
  go_wp2_with fail
  refine (awake16 _).mono ?_
  rintro e w1 ⟨rfl, hb1⟩
  have HX := Lib.hid ((Box.new w #[.slice a1 n1 c1, .slice a2 n2 c2] 38).later hb1)
  have HB1 := Lib.hid (((Below.refl w.heap.size w).alloc (Nat.le_refl _) (.cells #[.slice a1 n1 c1, .slice a2 n2 c2] 38)).trans (hb1.mono (by simp)))
  clear hb1
  obtain ⟨x0, x1, xf, xz⟩ := HX.out.v2
  go_wp2_with fail
  refine (H.out _ HB1.out).mono ?_
  rintro e w2 ⟨rfl, hb2⟩
  have HB2 := Lib.hid (HB1.out.trans (hb2.mono HB1.out.size))
  clear hb2 x0 x1 xf xz
  go_wp2_with fail
  refine (awake16 _).mono ?_
  rintro e w3 ⟨rfl, hb3⟩
  have HB3 := Lib.hid (HB2.out.trans (hb3.mono HB2.out.size))
  clear hb3
  go_wp2_with fail
  go_ret
  exact ⟨rfl, HB3.out⟩

set_option maxRecDepth 100000 in
set_option maxHeartbeats 1000000 in
theorem changes5_many (v1 v2 : Value) (a : Option Addr) (n c : Nat) (w : World) (b : Bk) (hv : BkR w w.heap.size v1 v2 b) (hhv : heavyB b = false) (hn : n ≤ 9223372036854775807) (hbig : 20 < n) :
    Calls Try.prog 5 #[.agg #[v1, v2], .slice a n c] w (Ret (.bool true) w) := by
  have H := Lib.hid (fun (w1 : World) (hb : Below w.heap.size w w1) => heavy23 v1 v2 b w1 (hv.later hb))
  rw [hhv] at H
  obtain ⟨⟨a1, n1, hv1, hl1, hA1⟩, ⟨a2, n2, hv2, hl2, hA2⟩, hids⟩ := hv
  subst hv1 hv2
  clear hA1 hA2 hids hhv
  have hb20 : decide ((20 : Int) < (n : Int)) = true := decide_eq_true (by omega)
  go_enter Try.func5, Try.ntmps5
  go_wp2_with fail
  refine (awake16 _).mono ?_
  rintro e w1 ⟨rfl, hb1⟩
  have HX := Lib.hid ((Box.new w #[.slice a1 b.st.length n1, .slice a2 b.ts.length n2] 38).later hb1)
  have HB1 := Lib.hid (((Below.refl w.heap.size w).alloc (Nat.le_refl _) (.cells #[.slice a1 b.st.length n1, .slice a2 b.ts.length n2] 38)).trans (hb1.mono (by simp)))
  clear hb1
  obtain ⟨x0, x1, xf, xz⟩ := HX.out.v2
  go_wp2_with fail
  refine (H.out _ HB1.out).mono ?_
  rintro e w2 ⟨rfl, hb2⟩
  have HB2 := Lib.hid (HB1.out.trans (hb2.mono HB1.out.size))
  clear hb2 x0 x1 xf xz
  go_wp2_with fail
  refine (awake16 _).mono ?_
  rintro e w3 ⟨rfl, hb3⟩
  have HB3 := Lib.hid (HB2.out.trans (hb3.mono HB2.out.size))
  clear hb3
  go_wp2_with fail
  go_ret
  exact ⟨rfl, HB3.out⟩

set_option maxRecDepth 100000 in
set_option maxHeartbeats 1000000 in
theorem changes5 (v1 v2 u : Value) (w : World) (b : Bk) (ps : List Int) (hv : BkR w w.heap.size v1 v2 b) (hu : Sl encI 1 w w.heap.size u ps) (hhv : heavyB b = false) (hpl : ps.length ≤ 20) :
    Calls Try.prog 5 #[.agg #[v1, v2], u] w (Ret (.bool true) w) := by
  obtain ⟨R, hR⟩ : ∃ R : Bool, R = true ↔ Con b := by
    classical
    exact ⟨decide (Con b), by simp⟩
  have H := Lib.hid (fun (w1 : World) (hb : Below w.heap.size w w1) => heavy23 v1 v2 b w1 (hv.later hb))
  have C24 := Lib.hid (fun (w1 : World) (hb : Below w.heap.size w w1) => ckBook24 v1 v2 b w1 (hv.later hb))
  have C29 := Lib.hid (fun (w1 : World) (hb : Below w.heap.size w w1) => change_p w1 v1 v2 u b ps (hv.later hb) (hu.later hb))
  have C30 := Lib.hid (fun (w1 : World) (hb : Below w.heap.size w w1) => ckNums30 u ps b.st.length w1 (hu.later hb))
  have C31 := Lib.hid (fun (w1 : World) (hb : Below w.heap.size w w1) (hok : OkBk b) => isCon31 w1 v1 v2 b hok (hv.later hb) R hR)
  have C32 := Lib.hid (fun (w1 : World) (hb : Below w.heap.size w w1) (hok : OkBk b) (hn : ckNums ps b.st.length = 0) (hc : Con b) => change32 w1 v1 v2 u b ps hok (hv.later hb) (hu.later hb) hn hc)
  rw [hhv] at H
  have HR := Lib.hid hR
  clear hR hhv
  obtain ⟨⟨a1, n1, hv1, hl1, hA1⟩, ⟨a2, n2, hv2, hl2, hA2⟩, hids⟩ := hv
  subst hv1 hv2
  obtain ⟨a3, n3, hv3, hl3, hA3⟩ := hu
  subst hv3
  clear hA1 hA2 hA3 hids
  obtain ⟨CK, hCK⟩ : ∃ CK, ckBook b = CK := ⟨_, rfl⟩
  obtain ⟨CN, hCN⟩ : ∃ CN, ckNums ps b.st.length = CN := ⟨_, rfl⟩
  have hCE : chE b ps = firstNZ [CK, CN] := by unfold chE; rw [hCK, hCN]
  obtain ⟨CE, hCE2⟩ : ∃ CE, firstNZ [CK, CN] = CE := ⟨_, rfl⟩
  rw [hCE2] at hCE
  rw [hCK] at C24
  rw [hCN] at C30
  have ECK := Lib.hid hCK
  have ECN := Lib.hid hCN
  have ECE := Lib.hid hCE
  have ECE2 := Lib.hid hCE2
  clear hCK hCN hCE hCE2
  have hb20 : decide ((20 : Int) < (ps.length : Int)) = false := decide_eq_false (by omega)
  go_enter Try.func5, Try.ntmps5
  go_wp2_with fail
  refine (awake16 _).mono ?_
  rintro e w1 ⟨rfl, hb1⟩
  have HX1 := Lib.hid ((Box.new w #[.slice a1 b.st.length n1, .slice a2 b.ts.length n2] 38).later hb1)
  have HB1 := Lib.hid (((Below.refl w.heap.size w).alloc (Nat.le_refl _) (.cells #[.slice a1 b.st.length n1, .slice a2 b.ts.length n2] 38)).trans (hb1.mono (by simp)))
  clear hb1
  obtain ⟨x0, x1, xf, xz⟩ := HX1.out.v2
  go_wp2_with fail
  refine (H.out _ HB1.out).mono ?_
  rintro e w2 ⟨rfl, hb2⟩
  have HX2 := Lib.hid (HX1.out.later hb2)
  have HB2 := Lib.hid (HB1.out.trans (hb2.mono HB1.out.size))
  clear hb2 x0 x1 xf xz HX1 HB1
  obtain ⟨x0, x1, xf, xz⟩ := HX2.out.v2
  go_wp2_with fail
  refine (C29.out _ HB2.out).mono ?_
  rintro e w3 ⟨⟨xl, xh⟩, E, rfl, hco, hb3⟩
  unfold ChOut at hco
  rw [ECE.out] at hco
  have HCO := Lib.hid hco
  have HX3 := Lib.hid (HX2.out.later hb3)
  have HB3 := Lib.hid (HB2.out.trans (hb3.mono HB2.out.size))
  clear hco hb3 x0 x1 xf xz HX2 HB2
  obtain ⟨x0, x1, xf, xz⟩ := HX3.out.v2
  go_wp2_with fail
  have hba : Below w3.heap.size w3 (w3.alloc (.cells #[.int .i64 xl, .int .i64 xh] 24)) := (Below.refl _ _).alloc (Nat.le_refl _) _
  have HC4 := Lib.hid (Box.new w3 #[.int .i64 xl, .int .i64 xh] 24)
  have HX4 := Lib.hid (HX3.out.later hba)
  have HB4 := Lib.hid (HB3.out.trans (hba.mono HB3.out.size))
  generalize w3.alloc (.cells #[.int .i64 xl, .int .i64 xh] 24) = w4 at *
  generalize w3.heap.size = P at *
  clear hba x0 x1 xf xz HX3 HB3
  refine (C24.out _ HB4.out).mono ?_
  rintro e w5 ⟨rfl, hb5⟩
  have HX5 := Lib.hid (HX4.out.later hb5)
  have HC5 := Lib.hid (HC4.out.later hb5)
  have HB5 := Lib.hid (HB4.out.trans (hb5.mono HB4.out.size))
  clear hb5 HX4 HB4 HC4
  obtain ⟨x0, x1, xf, xz⟩ := HX5.out.v2
  go_wp2_with fail
  refine (C30.out _ HB5.out).mono ?_
  rintro e w6 ⟨rfl, hb6⟩
  have HX6 := Lib.hid (HX5.out.later hb6)
  have HC6 := Lib.hid (HC5.out.later hb6)
  have HB6 := Lib.hid (HB5.out.trans (hb6.mono HB5.out.size))
  clear hb6 x0 x1 xf xz HX5 HB5 HC5
  go_wp2_with fail
  refine (first18 _ [CK, CN] _ (Sl.lit encI_len [CK, CN] w6 #[.int .i64 CK, .int .i64 CN] _ 2 rfl rfl (by simp))).mono ?_
  rintro e w7 ⟨rfl, rfl⟩
  rw [ECE2.out]
  have hba : Below w6.heap.size w6 (w6.alloc (.cells #[.int .i64 CK, .int .i64 CN] 3)) := (Below.refl _ _).alloc (Nat.le_refl _) _
  have HX7 := Lib.hid (HX6.out.later hba)
  have HC7 := Lib.hid (HC6.out.later hba)
  have HB7 := Lib.hid (HB6.out.trans (hba.mono HB6.out.size))
  generalize w6.alloc (.cells #[.int .i64 CK, .int .i64 CN] 3) = w7 at *
  clear hba HX6 HC6 HB6
  obtain ⟨x0, x1, xf, xz⟩ := HX7.out.v2
  obtain ⟨c0, c1, cf, cz⟩ := HC7.out.v2
  have hba : Below w7.heap.size w7 (w7.alloc (.cells #[.int .i64 0, .int .i64 0] 24)) := (Below.refl _ _).alloc (Nat.le_refl _) _
  have HQ8 := Lib.hid (Box.new w7 #[.int .i64 0, .int .i64 0] 24)
  have HX8 := Lib.hid (HX7.out.later hba)
  have HC8 := Lib.hid (HC7.out.later hba)
  have HB8 := Lib.hid (HB7.out.trans (hba.mono HB7.out.size))
  rcases HCO.out with ⟨h0, h1, h2⟩ | ⟨h0, hc, h1, h2⟩ | ⟨h0, hc, lo, hi, htg, hor⟩
  · cases h1
    subst h2
    have k0 : (E == 0) = false := beq_eq_false_iff_ne.2 h0
    go_wp2_with fail
    refine (alike_ok z z E E _ (by unfold alikeB; simp [h0])).mono ?_
    rintro e w9 ⟨rfl, hb⟩
    have HBZ := Lib.hid (HB8.out.trans (hb.mono HB8.out.size))
    clear hb
    go_wp2_with fail
    go_ret
    exact ⟨rfl, HBZ.out⟩
  · cases h1
    subst h0 h2
    have hrf : R = false := by
      cases R with
      | false => rfl
      | true => exact absurd (HR.out.1 rfl) hc
    subst hrf
    have HCK0 := Lib.hid (firstNZ_2.1 ECE2.out)
    go_wp2_with fail
    refine (C31.out _ HB8.out (okBk_of (by rw [ECK.out]; exact HCK0.out.1))).mono ?_
    rintro e w9 ⟨rfl, hb9⟩
    have HC9 := Lib.hid (HC8.out.later hb9)
    have HQ9 := Lib.hid (HQ8.out.later hb9)
    have HB9 := Lib.hid (HB8.out.trans (hb9.mono HB8.out.size))
    clear hb9 x0 x1 xf xz c0 c1 cf cz
    obtain ⟨c0, c1, cf, cz⟩ := HC9.out.v2
    obtain ⟨q0, q1, qf, qz⟩ := HQ9.out.v2
    go_wp2_with fail
    refine (alike_ok z z 15 15 _ (by unfold alikeB; simp)).mono ?_
    rintro e w10 ⟨rfl, hb⟩
    have HBZ := Lib.hid (HB9.out.trans (hb.mono HB9.out.size))
    clear hb
    go_wp2_with fail
    go_ret
    exact ⟨rfl, HBZ.out⟩
  · subst h0
    have hrt : R = true := HR.out.2 hc
    subst hrt
    have HCK0 := Lib.hid (firstNZ_2.1 ECE2.out)
    have HTG := Lib.hid htg
    have HOR := Lib.hid hor
    clear htg hor
    go_wp2_with fail
    refine (C31.out _ HB8.out (okBk_of (by rw [ECK.out]; exact HCK0.out.1))).mono ?_
    rintro e w9 ⟨rfl, hb9⟩
    have HX9 := Lib.hid (HX8.out.later hb9)
    have HC9 := Lib.hid (HC8.out.later hb9)
    have HQ9 := Lib.hid (HQ8.out.later hb9)
    have HB9 := Lib.hid (HB8.out.trans (hb9.mono HB8.out.size))
    clear hb9 x0 x1 xf xz c0 c1 cf cz
    obtain ⟨x0, x1, xf, xz⟩ := HX9.out.v2
    go_wp2_with fail
    refine (C32.out _ HB9.out (okBk_of (by rw [ECK.out]; exact HCK0.out.1)) (by rw [ECN.out]; exact HCK0.out.2) hc).mono ?_
    rintro e w10 ⟨lo', hi', rfl, htg', hb10⟩
    obtain ⟨hlo, hhi, hle⟩ := Together.unique HTG.out htg'
    subst hlo hhi
    have hc10 := HC9.out.later hb10
    have hq10 := HQ9.out.later hb10
    have hb11 := HB9.out.trans (hb10.mono HB9.out.size)
    clear htg' hb10 x0 x1 xf xz
    have hpq : P ≠ w7.heap.size := by have := HC7.out.lt; omega
    obtain ⟨q0, q1, qf, qz⟩ := hq10.v2
    have HQ11 := Lib.hid ((hq10.set 0 (.int .i64 lo)).set 1 (.int .i64 hi))
    have HC11 := Lib.hid ((hc10.other (a := ⟨w7.heap.size, 0, none⟩) (.int .i64 lo) (Ne.symm hpq)).other (a := ⟨w7.heap.size, 1, none⟩) (.int .i64 hi) (Ne.symm hpq))
    have HB11 := Lib.hid ((hb11.setCell (p := ⟨w7.heap.size, 0, none⟩) (by have := HB7.out.size; dsimp only; omega) (.int .i64 lo)).setCell (p := ⟨w7.heap.size, 1, none⟩) (by have := HB7.out.size; dsimp only; omega) (.int .i64 hi))
    clear hc10 hq10 hb11
    simp only [List.set_cons_zero, List.set_cons_succ] at HQ11
    obtain ⟨q0', q1', qf', qz'⟩ := HQ11.out.v2
    obtain ⟨c0, c1, cf, cz⟩ := HC11.out.v2
    by_cases hl1 : lo < -999999999
    · have b1 : decide (lo < -999999999) = true := decide_eq_true hl1
      obtain ⟨_, h1, h2⟩ | ⟨h, _⟩ := HOR.out
      · cases h1
        subst h2
        go_wp2_with fail
        refine (when27 true 4 _).mono ?_
        rintro e w12 ⟨rfl, rfl⟩
        simp only [whenB]
        go_wp2_with fail
        refine (alike_ok z ⟨lo, hi⟩ 4 4 _ (by unfold alikeB; simp)).mono ?_
        rintro e w13 ⟨rfl, hb⟩
        have HBZ := Lib.hid (HB11.out.trans (hb.mono HB11.out.size))
        clear hb
        go_wp2_with fail
        go_ret
        exact ⟨rfl, HBZ.out⟩
      · have := ckRange_ok.1 h
        dsimp only at this
        omega
    · have b1 : decide (lo < -999999999) = false := decide_eq_false hl1
      by_cases hl2 : 999999999 < hi
      · have b2 : decide (999999999 < hi) = true := decide_eq_true hl2
        obtain ⟨_, h1, h2⟩ | ⟨h, _⟩ := HOR.out
        · cases h1
          subst h2
          go_wp2_with fail
          refine (when27 true 4 _).mono ?_
          rintro e w12 ⟨rfl, rfl⟩
          simp only [whenB]
          go_wp2_with fail
          refine (alike_ok z ⟨lo, hi⟩ 4 4 _ (by unfold alikeB; simp)).mono ?_
          rintro e w13 ⟨rfl, hb⟩
          have HBZ := Lib.hid (HB11.out.trans (hb.mono HB11.out.size))
          clear hb
          go_wp2_with fail
          go_ret
          exact ⟨rfl, HBZ.out⟩
        · have := ckRange_ok.1 h
          dsimp only at this
          omega
      · have b2 : decide (999999999 < hi) = false := decide_eq_false hl2
        obtain ⟨h, _⟩ | ⟨_, h1, h2⟩ := HOR.out
        · exact absurd (ckRange_ok.2 ⟨by dsimp only; omega, by dsimp only; omega, by dsimp only; omega⟩) h
        · cases h1
          subst h2
          go_wp2_with fail
          refine (when27 false 4 _).mono ?_
          rintro e w12 ⟨rfl, rfl⟩
          simp only [whenB]
          go_wp2_with fail
          refine (alike_ok ⟨xl, xh⟩ ⟨xl, xh⟩ 0 0 _ (by unfold alikeB; simp)).mono ?_
          rintro e w13 ⟨rfl, hb⟩
          have HBZ := Lib.hid (HB11.out.trans (hb.mono HB11.out.size))
          clear hb
          go_wp2_with fail
          go_ret
          exact ⟨rfl, HBZ.out⟩
end Go.Proofs.Ytlakcghdehdeiaa

/- The law of Witness, walked. -/
namespace Go.Proofs.Ytlakcghdehdeiaa
open Go Go.Proofs Go.RowKit

theorem wit_end {b : Bk} {i : Nat} {high : Bool} {ms : List Int} {rs : List Rg} (ht : TightS b rs) (hi : i < rs.length) (hm : i < ms.length) (h : WitOk b i high ms) : ms[i] = if high then rs[i].hi else rs[i].lo := by
  obtain ⟨⟨a, a1, a2⟩, ⟨c, c1, c2⟩, hb⟩ := ht.sp i hi
  have h1 := hb ms h.1
  have h2 := h.2 a a1
  have h3 := h.2 c c1
  dsimp only at a2 c2 h1
  rw [getD_at ms i hm] at h1 h2 h3
  cases high
  · simp only [Bool.false_eq_true, if_false] at h2 h3 ⊢; omega
  · simp only [if_true] at h2 h3 ⊢; omega

set_option maxRecDepth 100000 in
set_option maxHeartbeats 1000000 in
theorem witnesses11_aside (v1 v2 : Value) (t : Int) (high : Bool) (w : World) (h : AsideB w (.agg #[v1, v2])) (hs : (∃ a n c, v1 = .slice a n c) ∧ ∃ a n c, v2 = .slice a n c) :
    Calls Try.prog 11 #[.agg #[v1, v2], .int .i64 t, .bool high] w (Ret (.bool true) w) := by
  obtain ⟨⟨a1, n1, c1, rfl⟩, a2, n2, c2, rfl⟩ := hs
  have H := Lib.hid h
  clear h
  go_enter Try.func11, Try.ntmps11
  go_wp2_with fail
  refine (awake16 _).mono ?_
  rintro e w1 ⟨rfl, hb1⟩
  have HX := Lib.hid ((Box.new w #[.slice a1 n1 c1, .slice a2 n2 c2] 38).later hb1)
  have HB1 := Lib.hid (((Below.refl w.heap.size w).alloc (Nat.le_refl _) (.cells #[.slice a1 n1 c1, .slice a2 n2 c2] 38)).trans (hb1.mono (by simp)))
  clear hb1
  obtain ⟨x0, x1, xf, xz⟩ := HX.out.v2
  go_wp2_with fail
  refine (H.out _ HB1.out).mono ?_
  rintro e w2 ⟨rfl, hb2⟩
  have HB2 := Lib.hid (HB1.out.trans (hb2.mono HB1.out.size))
  clear hb2 x0 x1 xf xz
  go_wp2_with fail
  refine (awake16 _).mono ?_
  rintro e w3 ⟨rfl, hb3⟩
  have HB3 := Lib.hid (HB2.out.trans (hb3.mono HB2.out.size))
  clear hb3
  go_wp2_with fail
  go_ret
  exact ⟨rfl, HB3.out⟩

set_option maxRecDepth 100000 in
set_option maxHeartbeats 1000000 in
theorem witnesses11 (v1 v2 : Value) (t : Int) (high : Bool) (w : World) (b : Bk) (hv : BkR w w.heap.size v1 v2 b) (hhv : heavyB b = false) :
    Calls Try.prog 11 #[.agg #[v1, v2], .int .i64 t, .bool high] w (Ret (.bool true) w) := by
  obtain ⟨R, hR⟩ : ∃ R : Bool, R = true ↔ Con b := by
    classical
    exact ⟨decide (Con b), by simp⟩
  have H := Lib.hid (fun (w1 : World) (hb : Below w.heap.size w w1) => heavy23 v1 v2 b w1 (hv.later hb))
  have C24 := Lib.hid (fun (w1 : World) (hb : Below w.heap.size w w1) => ckBook24 v1 v2 b w1 (hv.later hb))
  have C43 := Lib.hid (fun (w1 : World) (hb : Below w.heap.size w w1) => witness43 w1 v1 v2 b t high (hv.later hb))
  have C31 := Lib.hid (fun (w1 : World) (hb : Below w.heap.size w w1) (hok : OkBk b) => isCon31 w1 v1 v2 b hok (hv.later hb) R hR)
  have C38 := Lib.hid (fun (w1 : World) (hb : Below w.heap.size w w1) (hok : OkBk b) (hc : Con b) => tighten38 w1 v1 v2 b hok (hv.later hb) hc)
  have C28 := Lib.hid (fun (w1 : World) (hb : Below w.heap.size w w1) (u : Value) (ms : List Int) (hu : Sl encI 1 w1 w1.heap.size u ms) (hl : ms.length = b.ts.length) (hok : ckBook b = 0) (ha : IsAsg b ms) => holds28 v1 v2 u b ms w1 (hv.later hb) hu hl hok true (by simp [ha]))
  rw [hhv] at H
  have HR := Lib.hid hR
  clear hR hhv
  obtain ⟨⟨a1, n1, hv1, hl1, hA1⟩, ⟨a2, n2, hv2, hl2, hA2⟩, hids⟩ := hv
  subst hv1 hv2
  clear hA1 hA2 hids
  obtain ⟨CK, hCK⟩ : ∃ CK, ckBook b = CK := ⟨_, rfl⟩
  rw [hCK] at C24
  have ECK := Lib.hid hCK
  clear hCK
  go_enter Try.func11, Try.ntmps11
  go_wp2_with fail
  refine (awake16 _).mono ?_
  rintro e w1 ⟨rfl, hb1⟩
  have HX1 := Lib.hid ((Box.new w #[.slice a1 b.st.length n1, .slice a2 b.ts.length n2] 38).later hb1)
  have HB1 := Lib.hid (((Below.refl w.heap.size w).alloc (Nat.le_refl _) (.cells #[.slice a1 b.st.length n1, .slice a2 b.ts.length n2] 38)).trans (hb1.mono (by simp)))
  clear hb1
  obtain ⟨x0, x1, xf, xz⟩ := HX1.out.v2
  go_wp2_with fail
  refine (H.out _ HB1.out).mono ?_
  rintro e w2 ⟨rfl, hb2⟩
  have HX2 := Lib.hid (HX1.out.later hb2)
  have HB2 := Lib.hid (HB1.out.trans (hb2.mono HB1.out.size))
  clear hb2 x0 x1 xf xz HX1 HB1
  obtain ⟨x0, x1, xf, xz⟩ := HX2.out.v2
  go_wp2_with fail
  refine (C43.out _ HB2.out).mono ?_
  rintro e w3 ⟨hb3, hor⟩
  rw [ECK.out] at hor
  have HX3 := Lib.hid (HX2.out.later hb3)
  have HB3 := Lib.hid (HB2.out.trans (hb3.mono HB2.out.size))
  have HOR := Lib.hid hor
  clear hb3 hor x0 x1 xf xz HX2 HB2
  obtain ⟨x0, x1, xf, xz⟩ := HX3.out.v2
  rcases HOR.out with ⟨h0, rfl⟩ | ⟨h0, hto, rfl⟩ | ⟨h0, ht0, ht1, hnc, rfl⟩ | ⟨h0, hc, i, rfl, hil, vl, ms, rfl, hsl, hwit⟩
  · have k0 : (CK == 0) = false := beq_eq_false_iff_ne.2 h0
    have k1 : (CK == CK) = true := beq_self_eq_true _
    by_cases hq0 : t < 0
    · have b1 : decide (t < 0) = true := decide_eq_true hq0
      go_wp2_with fail
      refine (C24.out _ HB3.out).mono ?_
      rintro e w4 ⟨rfl, hb4⟩
      have HX4 := Lib.hid (HX3.out.later hb4)
      have HB4 := Lib.hid (HB3.out.trans (hb4.mono HB3.out.size))
      clear hb4 x0 x1 xf xz HX3 HB3
      obtain ⟨x0, x1, xf, xz⟩ := HX4.out.v2
      go_wp2_with fail
      refine (when27 true 10 _).mono ?_
      rintro e w5 ⟨rfl, rfl⟩
      simp only [whenB]
      go_wp2_with fail
      refine (first18 _ [CK, 10] _ (Sl.lit encI_len [CK, 10] w4 #[.int .i64 CK, .int .i64 10] _ 2 rfl rfl (by simp))).mono ?_
      rintro e w6 ⟨rfl, rfl⟩
      have hfn : firstNZ [CK, 10] = CK := by simp [firstNZ, h0]
      rw [hfn]
      clear hfn
      have hba : Below w4.heap.size w4 (w4.alloc (.cells #[.int .i64 CK, .int .i64 10] 3)) := (Below.refl _ _).alloc (Nat.le_refl _) _
      have HX6 := Lib.hid (HX4.out.later hba)
      have HB6 := Lib.hid (HB4.out.trans (hba.mono HB4.out.size))
      generalize w4.alloc (.cells #[.int .i64 CK, .int .i64 10] 3) = w6 at *
      clear hba HX4 HB4 x0 x1 xf xz
      obtain ⟨x0, x1, xf, xz⟩ := HX6.out.v2
      go_wp2_with fail
      go_ret
      exact ⟨rfl, HB6.out⟩
    · by_cases hq1 : (b.ts.length : Int) ≤ t
      · have b1 : decide (t < 0) = false := decide_eq_false hq0
        have b2 : decide ((b.ts.length : Int) ≤ t) = true := decide_eq_true hq1
        go_wp2_with fail
        refine (C24.out _ HB3.out).mono ?_
        rintro e w4 ⟨rfl, hb4⟩
        have HX4 := Lib.hid (HX3.out.later hb4)
        have HB4 := Lib.hid (HB3.out.trans (hb4.mono HB3.out.size))
        clear hb4 x0 x1 xf xz HX3 HB3
        obtain ⟨x0, x1, xf, xz⟩ := HX4.out.v2
        go_wp2_with fail
        refine (when27 true 10 _).mono ?_
        rintro e w5 ⟨rfl, rfl⟩
        simp only [whenB]
        go_wp2_with fail
        refine (first18 _ [CK, 10] _ (Sl.lit encI_len [CK, 10] w4 #[.int .i64 CK, .int .i64 10] _ 2 rfl rfl (by simp))).mono ?_
        rintro e w6 ⟨rfl, rfl⟩
        have hfn : firstNZ [CK, 10] = CK := by simp [firstNZ, h0]
        rw [hfn]
        clear hfn
        have hba : Below w4.heap.size w4 (w4.alloc (.cells #[.int .i64 CK, .int .i64 10] 3)) := (Below.refl _ _).alloc (Nat.le_refl _) _
        have HX6 := Lib.hid (HX4.out.later hba)
        have HB6 := Lib.hid (HB4.out.trans (hba.mono HB4.out.size))
        generalize w4.alloc (.cells #[.int .i64 CK, .int .i64 10] 3) = w6 at *
        clear hba HX4 HB4 x0 x1 xf xz
        obtain ⟨x0, x1, xf, xz⟩ := HX6.out.v2
        go_wp2_with fail
        go_ret
        exact ⟨rfl, HB6.out⟩
      · have b1 : decide (t < 0) = false := decide_eq_false hq0
        have b2 : decide ((b.ts.length : Int) ≤ t) = false := decide_eq_false hq1
        go_wp2_with fail
        refine (C24.out _ HB3.out).mono ?_
        rintro e w4 ⟨rfl, hb4⟩
        have HX4 := Lib.hid (HX3.out.later hb4)
        have HB4 := Lib.hid (HB3.out.trans (hb4.mono HB3.out.size))
        clear hb4 x0 x1 xf xz HX3 HB3
        obtain ⟨x0, x1, xf, xz⟩ := HX4.out.v2
        go_wp2_with fail
        refine (when27 false 10 _).mono ?_
        rintro e w5 ⟨rfl, rfl⟩
        simp only [whenB]
        go_wp2_with fail
        refine (first18 _ [CK, 0] _ (Sl.lit encI_len [CK, 0] w4 #[.int .i64 CK, .int .i64 0] _ 2 rfl rfl (by simp))).mono ?_
        rintro e w6 ⟨rfl, rfl⟩
        have hfn : firstNZ [CK, 0] = CK := by simp [firstNZ, h0]
        rw [hfn]
        clear hfn
        have hba : Below w4.heap.size w4 (w4.alloc (.cells #[.int .i64 CK, .int .i64 0] 3)) := (Below.refl _ _).alloc (Nat.le_refl _) _
        have HX6 := Lib.hid (HX4.out.later hba)
        have HB6 := Lib.hid (HB4.out.trans (hba.mono HB4.out.size))
        generalize w4.alloc (.cells #[.int .i64 CK, .int .i64 0] 3) = w6 at *
        clear hba HX4 HB4 x0 x1 xf xz
        obtain ⟨x0, x1, xf, xz⟩ := HX6.out.v2
        go_wp2_with fail
        go_ret
        exact ⟨rfl, HB6.out⟩
  · subst h0
    by_cases hq0 : t < 0
    · have b1 : decide (t < 0) = true := decide_eq_true hq0
      go_wp2_with fail
      refine (C24.out _ HB3.out).mono ?_
      rintro e w4 ⟨rfl, hb4⟩
      have HX4 := Lib.hid (HX3.out.later hb4)
      have HB4 := Lib.hid (HB3.out.trans (hb4.mono HB3.out.size))
      clear hb4 x0 x1 xf xz HX3 HB3
      obtain ⟨x0, x1, xf, xz⟩ := HX4.out.v2
      go_wp2_with fail
      refine (when27 true 10 _).mono ?_
      rintro e w5 ⟨rfl, rfl⟩
      simp only [whenB]
      go_wp2_with fail
      refine (first18 _ [0, 10] _ (Sl.lit encI_len [0, 10] w4 #[.int .i64 0, .int .i64 10] _ 2 rfl rfl (by simp))).mono ?_
      rintro e w6 ⟨rfl, rfl⟩
      have hfn : firstNZ [0, 10] = 10 := by simp [firstNZ]
      rw [hfn]
      clear hfn
      have hba : Below w4.heap.size w4 (w4.alloc (.cells #[.int .i64 0, .int .i64 10] 3)) := (Below.refl _ _).alloc (Nat.le_refl _) _
      have HX6 := Lib.hid (HX4.out.later hba)
      have HB6 := Lib.hid (HB4.out.trans (hba.mono HB4.out.size))
      generalize w4.alloc (.cells #[.int .i64 0, .int .i64 10] 3) = w6 at *
      clear hba HX4 HB4 x0 x1 xf xz
      obtain ⟨x0, x1, xf, xz⟩ := HX6.out.v2
      go_wp2_with fail
      go_ret
      exact ⟨rfl, HB6.out⟩
    · by_cases hq1 : (b.ts.length : Int) ≤ t
      · have b1 : decide (t < 0) = false := decide_eq_false hq0
        have b2 : decide ((b.ts.length : Int) ≤ t) = true := decide_eq_true hq1
        go_wp2_with fail
        refine (C24.out _ HB3.out).mono ?_
        rintro e w4 ⟨rfl, hb4⟩
        have HX4 := Lib.hid (HX3.out.later hb4)
        have HB4 := Lib.hid (HB3.out.trans (hb4.mono HB3.out.size))
        clear hb4 x0 x1 xf xz HX3 HB3
        obtain ⟨x0, x1, xf, xz⟩ := HX4.out.v2
        go_wp2_with fail
        refine (when27 true 10 _).mono ?_
        rintro e w5 ⟨rfl, rfl⟩
        simp only [whenB]
        go_wp2_with fail
        refine (first18 _ [0, 10] _ (Sl.lit encI_len [0, 10] w4 #[.int .i64 0, .int .i64 10] _ 2 rfl rfl (by simp))).mono ?_
        rintro e w6 ⟨rfl, rfl⟩
        have hfn : firstNZ [0, 10] = 10 := by simp [firstNZ]
        rw [hfn]
        clear hfn
        have hba : Below w4.heap.size w4 (w4.alloc (.cells #[.int .i64 0, .int .i64 10] 3)) := (Below.refl _ _).alloc (Nat.le_refl _) _
        have HX6 := Lib.hid (HX4.out.later hba)
        have HB6 := Lib.hid (HB4.out.trans (hba.mono HB4.out.size))
        generalize w4.alloc (.cells #[.int .i64 0, .int .i64 10] 3) = w6 at *
        clear hba HX4 HB4 x0 x1 xf xz
        obtain ⟨x0, x1, xf, xz⟩ := HX6.out.v2
        go_wp2_with fail
        go_ret
        exact ⟨rfl, HB6.out⟩
      · exact absurd hto (by omega)
  · subst h0
    have hrf : R = false := by
      cases R with
      | false => rfl
      | true => exact absurd (HR.out.1 rfl) hnc
    subst hrf
    have b1 : decide (t < 0) = false := decide_eq_false (by omega)
    have b2 : decide ((b.ts.length : Int) ≤ t) = false := decide_eq_false (by omega)
    go_wp2_with fail
    refine (C24.out _ HB3.out).mono ?_
    rintro e w4 ⟨rfl, hb4⟩
    have HX4 := Lib.hid (HX3.out.later hb4)
    have HB4 := Lib.hid (HB3.out.trans (hb4.mono HB3.out.size))
    clear hb4 x0 x1 xf xz HX3 HB3
    obtain ⟨x0, x1, xf, xz⟩ := HX4.out.v2
    go_wp2_with fail
    refine (when27 false 10 _).mono ?_
    rintro e w5 ⟨rfl, rfl⟩
    simp only [whenB]
    go_wp2_with fail
    refine (first18 _ [0, 0] _ (Sl.lit encI_len [0, 0] w4 #[.int .i64 0, .int .i64 0] _ 2 rfl rfl (by simp))).mono ?_
    rintro e w6 ⟨rfl, rfl⟩
    have hfn : firstNZ [0, 0] = 0 := by simp [firstNZ]
    rw [hfn]
    clear hfn
    have hba : Below w4.heap.size w4 (w4.alloc (.cells #[.int .i64 0, .int .i64 0] 3)) := (Below.refl _ _).alloc (Nat.le_refl _) _
    have HX6 := Lib.hid (HX4.out.later hba)
    have HB6 := Lib.hid (HB4.out.trans (hba.mono HB4.out.size))
    generalize w4.alloc (.cells #[.int .i64 0, .int .i64 0] 3) = w6 at *
    clear hba HX4 HB4 x0 x1 xf xz
    obtain ⟨x0, x1, xf, xz⟩ := HX6.out.v2
    go_wp2_with fail
    refine (C31.out _ HB6.out (okBk_of ECK.out)).mono ?_
    rintro e w7 ⟨rfl, hb7⟩
    have HX7 := Lib.hid (HX6.out.later hb7)
    have HB7 := Lib.hid (HB6.out.trans (hb7.mono HB6.out.size))
    clear hb7
    go_wp2_with fail
    go_ret
    exact ⟨rfl, HB7.out⟩
  · subst h0
    have hrt : R = true := HR.out.2 hc
    subst hrt
    have HSL3 := Lib.hid hsl
    have HWI := Lib.hid hwit
    have hml : ms.length = b.ts.length := hwit.1.len
    have him : i < ms.length := by omega
    have b1 : decide ((i : Int) < 0) = false := decide_eq_false (by omega)
    have b2 : decide ((b.ts.length : Int) ≤ (i : Int)) = false := decide_eq_false (by omega)
    have b3 : decide (b.ts.length ≤ i) = false := decide_eq_false (by omega)
    have HML := Lib.hid hml
    clear hsl hwit hml
    go_wp2_with fail
    refine (C24.out _ HB3.out).mono ?_
    rintro e w4 ⟨rfl, hb4⟩
    have HX4 := Lib.hid (HX3.out.later hb4)
    have HB4 := Lib.hid (HB3.out.trans (hb4.mono HB3.out.size))
    have HSL4 := Lib.hid (HSL3.out.later hb4)
    clear hb4 x0 x1 xf xz HX3 HB3
    obtain ⟨x0, x1, xf, xz⟩ := HX4.out.v2
    go_wp2_with fail
    refine (when27 false 10 _).mono ?_
    rintro e w5 ⟨rfl, rfl⟩
    simp only [whenB]
    go_wp2_with fail
    refine (first18 _ [0, 0] _ (Sl.lit encI_len [0, 0] w4 #[.int .i64 0, .int .i64 0] _ 2 rfl rfl (by simp))).mono ?_
    rintro e w6 ⟨rfl, rfl⟩
    have hfn : firstNZ [0, 0] = 0 := by simp [firstNZ]
    rw [hfn]
    clear hfn
    have hba : Below w4.heap.size w4 (w4.alloc (.cells #[.int .i64 0, .int .i64 0] 3)) := (Below.refl _ _).alloc (Nat.le_refl _) _
    have HX6 := Lib.hid (HX4.out.later hba)
    have HB6 := Lib.hid (HB4.out.trans (hba.mono HB4.out.size))
    generalize w4.alloc (.cells #[.int .i64 0, .int .i64 0] 3) = w6 at *
    have HSL6 := Lib.hid (HSL4.out.later hba)
    clear hba HSL4 HX4 HB4 x0 x1 xf xz
    obtain ⟨x0, x1, xf, xz⟩ := HX6.out.v2
    go_wp2_with fail
    refine (C31.out _ HB6.out (okBk_of ECK.out)).mono ?_
    rintro e w7 ⟨rfl, hb7⟩
    have HX7 := Lib.hid (HX6.out.later hb7)
    have HB7 := Lib.hid (HB6.out.trans (hb7.mono HB6.out.size))
    have HSL7 := Lib.hid (HSL6.out.later hb7)
    clear hb7 HX6 HB6 HSL6 x0 x1 xf xz
    obtain ⟨x0, x1, xf, xz⟩ := HX7.out.v2
    go_wp2_with fail
    refine (C38.out _ HB7.out (okBk_of ECK.out) hc).mono ?_
    rintro e w8 ⟨vt, rs, rfl, hrs, hrl, htt, hb8⟩
    have HX8 := Lib.hid (HX7.out.later hb8)
    have HB8 := Lib.hid (HB7.out.trans (hb8.mono HB7.out.size))
    have HSL8 := Lib.hid (HSL7.out.later hb8)
    have hir : i < rs.length := by omega
    have hend := wit_end (tightS_of (okBk_of ECK.out) hrl htt) hir him HWI.out
    have HEND := Lib.hid hend
    obtain ⟨at', ct, hvt, _, hA⟩ := hrs
    obtain ⟨bt, ot, hat, hbt, htc⟩ := hA (by omega)
    subst hat hvt
    rw [hrl]
    obtain ⟨r0, r1⟩ := (htc i hir).c2
    obtain ⟨ri, hri⟩ : ∃ r, rs[i] = r := ⟨_, rfl⟩
    rw [hri] at r0 r1 HEND
    obtain ⟨rl, rh⟩ := ri
    dsimp only at r0 r1
    clear hb8 HX7 HB7 HSL7 x0 x1 xf xz htc hri hend htt
    obtain ⟨x0, x1, xf, xz⟩ := HX8.out.v2
    obtain ⟨al, cl, hvl, _, hA⟩ := HSL8.out
    obtain ⟨bl, ol, hal, hbl, hlc⟩ := hA (by omega)
    subst hal hvl
    have l0 := (hlc i him).c1
    rw [Nat.mul_one] at l0
    rw [HML.out]
    have HL0 := Lib.hid l0
    clear hlc hA
    go_wp2_with fail
    have hba : Below w8.heap.size w8 (w8.alloc (.cells #[.int .i64 rl, .int .i64 rh] 24)) := (Below.refl _ _).alloc (Nat.le_refl _) _
    have HQ9 := Lib.hid (Box.new w8 #[.int .i64 rl, .int .i64 rh] 24)
    have HB9 := Lib.hid (HB8.out.trans (hba.mono HB8.out.size))
    have HSL9 := Lib.hid (HSL8.out.later hba)
    generalize w8.alloc (.cells #[.int .i64 rl, .int .i64 rh] 24) = w9 at *
    generalize w8.heap.size = P at *
    clear hba HX8 HB8 HSL8 x0 x1 xf xz r0 r1 l0 HL0
    rw [HML.out] at HSL9
    refine (C28.out w9 HB9.out _ ms HSL9.out HML.out ECK.out HWI.out.1).mono ?_
    rintro e w10 ⟨rfl, hb10⟩
    have HB10 := Lib.hid (HB9.out.trans (hb10.mono HB9.out.size))
    have hq10 := HQ9.out.later hb10
    obtain ⟨q0, q1, qf, qz⟩ := hq10.v2
    obtain ⟨_, _, e1, _, hA⟩ := HSL9.out.later hb10
    obtain ⟨bl', ol', e2, hbl', hlc⟩ := hA (by omega)
    injection e1 with e1 e3 e4
    rw [← e1] at e2
    cases e2
    clear e1 e3 e4 hA
    have l0 := (hlc i him).c1
    rw [Nat.mul_one, HEND.out] at l0
    clear hlc hb10 hq10
    have him2 : i < b.ts.length := hil
    cases high
    · simp only [Bool.false_eq_true, if_false] at l0
      have k1 : (rl == rl) = true := beq_self_eq_true _
      go_wp2_with fail
      go_quiet (fail)
      go_wp2_with fail
      go_ret
      exact ⟨rfl, below_drewN HB10.out _⟩
    · simp only [if_true] at l0
      have k1 : (rh == rh) = true := beq_self_eq_true _
      go_wp2_with fail
      go_quiet (fail)
      go_wp2_with fail
      go_ret
      exact ⟨rfl, below_drewN HB10.out _⟩
end Go.Proofs.Ytlakcghdehdeiaa

/- A row of tickets is copied (the source may be nil); tickets with other masses, one after the other. -/
namespace Go.Proofs.Ytlakcghdehdeiaa
open Go Go.Proofs Go.RowKit

theorem step_catE {α : Type} (f : α → List Value) (sz bytes : Nat) (t e : TypeId) (z : Value) {P : Program} (hT : P.underlying t = some (.slice e)) (hI : (P.info? e).map (fun i => (i.zero, i.size, i.bytes)) = some (some z, sz, bytes))
    (hzs : z.cells.size = sz) (hsz : 0 < sz) (hby : bytes ≤ 1000) (hf : ∀ x, (f x).length = sz) (h1c : ∀ x, ∀ u ∈ f x, u.oneCell' = true)
    (l l2 : List α) (base : Nat) (w : World) (v : Value) (hown : Own f sz e w base v l) (hbase : base ≤ w.heap.size) (hlen : l.length + l2.length ≤ 2000000000) (ap : Option Addr) (c : Nat)
    (hat : 0 < l2.length → ∃ p, ap = some p ∧ ∀ i (h : i < l2.length), ∀ j u, (f l2[i])[j]? = some u → w.cell? (p.add (i * sz + j)) = some u) (hv : ∃ g cap, v = .slice (some ⟨g, 0, none⟩) l.length cap)
    {ops : Array Oper} {o : Oper} {a : Act} {K : Act → World → Prop} {Q : Exit → Act → World → Prop} {E : Prop} (hgd : o.guard = none) (s y : Operand)
    (ho : o.op = .call { callee := .builtin .append, args := #[s, y], argTypes := #[t, t] }) (hs : a.eval s = v) (hy : a.eval y = .slice ap l2.length c)
    (h : ∀ v' w', Own f sz e w' base v' (l ++ l2) → w.grownBy w' v.ownBlock → K (a.put o.dst v') w') :
    if Region.wanted o (yielded ops a.tmps) = true then Oper.wp P o a w K Q else E := by
  cases ap with
  | some p =>
    exact step_cat f sz bytes t e z hT hI hzs hsz hby hf h1c l l2 base w v hown hbase hlen p c (fun i hi => by obtain ⟨p', e, hc⟩ := hat (by omega); cases e; exact hc i hi) hgd s y ho hs hy h
  | none =>
    have hl2 : l2 = [] := by
      cases l2 with
      | nil => rfl
      | cons x r => obtain ⟨p, e, _⟩ := hat (by simp); cases e
    subst hl2
    obtain ⟨g, cap, rfl⟩ := hv
    have hw : Region.wanted o (yielded ops a.tmps) = true := by simp [Region.wanted, hgd]
    rw [if_pos hw]
    obtain ⟨i, hi, hz0, hz1, hz2⟩ := info_parts hI
    have hcap : l.length ≤ cap := by
      rcases hown.2 with ⟨h1, _⟩ | ⟨g', cap', cur, h1, _, _, h2, _⟩
      · cases h1
      · injection h1 with _ _ h3; omega
    have hrun := run_append_room_src (P := P) w t t o.type e i hT hi g 0 l.length cap (.slice none 0 c) 0 [] (Src.ofNil w hT c) (by omega) (by simp) (by simp)
    have hK := h (.slice (some ⟨g, 0, none⟩) l.length cap) w (by rw [List.append_nil]; exact hown) (World.grownBy.refl _ _)
    unfold Oper.wp
    simp only [List.length_nil] at hy
    simp only [Nat.add_zero, Nat.zero_add, World.setCells] at hrun
    simp [execOp, ho, resolve, invoke, builtin, hs, hy, hrun, Result.andThen]
    exact hK

/-- The first k tickets have other masses. -/
def setK (ts : List Tk) (rs : List Rg) (k : Nat) : List Tk := ts.mapIdx fun i t => if i < k then setT t (rs.getD i ⟨0, 0⟩) else t
theorem setK_len (ts : List Tk) (rs : List Rg) (k : Nat) : (setK ts rs k).length = ts.length := by simp [setK]
theorem setK_zero (ts : List Tk) (rs : List Rg) : setK ts rs 0 = ts := by
  apply List.ext_getElem (by simp [setK])
  intro i h1 h2
  simp [setK]
theorem setK_get (ts : List Tk) (rs : List Rg) (k i : Nat) (h : i < ts.length) : (setK ts rs k)[i]'(by rw [setK_len]; exact h) = if i < k then setT ts[i] (rs.getD i ⟨0, 0⟩) else ts[i] := by simp [setK]
theorem setK_succ (ts : List Tk) (rs : List Rg) (k : Nat) (h : k < ts.length) (hr : k < rs.length) : (setK ts rs k).set k (setT ts[k] rs[k]) = setK ts rs (k + 1) := by
  apply List.ext_getElem (by simp [setK])
  intro i h1 h2
  have hi : i < ts.length := by rw [setK_len] at h2; exact h2
  rw [List.getElem_set, setK_get _ _ _ _ hi, setK_get _ _ _ _ hi]
  by_cases hk : k = i
  · subst hk
    rw [if_pos rfl, if_pos (by omega), List.getD_eq_getElem?_getD, List.getElem?_eq_getElem hr]; rfl
  · rw [if_neg hk]
    by_cases h3 : i < k
    · rw [if_pos h3, if_pos (by omega)]
    · rw [if_neg h3, if_neg (by omega)]
theorem setK_all (ts : List Tk) (rs : List Rg) (h : rs.length = ts.length) : setK ts rs ts.length = List.zipWith setT ts rs := by
  apply List.ext_getElem (by simp [setK, h])
  intro i h1 h2
  have hi : i < ts.length := by rw [setK_len] at h1; exact h1
  rw [setK_get _ _ _ _ hi, if_pos hi, List.getElem_zipWith, List.getD_eq_getElem?_getD, List.getElem?_eq_getElem (by omega)]; rfl

noncomputable def c6 : Code := Try.f6.body.getD .skip
noncomputable def r68 : Code := codeL (codeR (codeR (codeR (codeR (codeR c6)))))
set_option maxRecDepth 100000 in
set_option maxHeartbeats 4000000 in
theorem r68_walk {q0 q1 q3 q4 q5 q6 q7 q8 q9 q10 q11 q12 q13 q14 q15 q16 q17 q18 q19 q20 q21 q22 q23 q24 q25 q26 q27 q28 q29 q30 q31 q32 q33 q34 q35 q36 q37 q38 q39 q40 q41 q42 q43 q44 q45 q46 q47 q48 q49 q50 q51 q52 q53 q54 q55 q56 q57 q58 q59 q60 q61 q62 q63 q64 q65 q66 q67 q68 q69 q70 q71 q72 q73 q74 q75 q76 q77 q78 q79 q80 q81 q82 q83 q84 q85 q86 q87 q88 q89 q90 q91 q92 q93 q94 q95 q96 q97 q98 q99 q100 q101 q102 q103 q104 q105 q106 q107 q108 q109 q110 q111 q112 q113 q114 q115 q116 q117 q118 q119 q120 q121 q122 q123 q124 q125 q126 q127 q128 q129 q130 q131 q132 q133 q134 q135 q136 q137 q138 q139 q140 q141 q142 q143 q144 q145 q146 q147 q148 q149 q150 q151 q152 q153 q154 q155 : Value} (W0 : World) (N : Nat) (v1 : Value) (ap : Option Addr) (n2 : Nat) (ts : List Tk) (hN : N < W0.heap.size) (hx : Box W0 N 38 [v1, .slice ap ts.length n2]) (hl : ts.length ≤ 1000)
    (hat : 0 < ts.length → ∃ bb off, ap = some ⟨bb, off, none⟩ ∧ bb < W0.heap.size ∧ ∀ i (h : i < ts.length), ∀ j u, (Tk.enc ts[i])[j]? = some u → W0.cell? ⟨bb, off + (i * 5 + j), none⟩ = some u) (hv1 : ∃ a n c, v1 = .slice a n c) :
    r68.wp Try.prog (fun e a W' => e = .normal ∧ ∃ (g : Nat) (v' : Value) (z : Nat → Value), a = { tmps := List.toArray (q0 :: q1 :: (.pointer (some ⟨N, 0, none⟩)) :: q3 :: q4 :: q5 :: q6 :: (.pointer (some ⟨g, 0, none⟩)) :: q8 :: q9 :: q10 :: q11 :: q12 :: q13 :: q14 :: q15 :: q16 :: q17 :: q18 :: q19 :: q20 :: q21 :: q22 :: q23 :: q24 :: q25 :: q26 :: q27 :: q28 :: q29 :: q30 :: q31 :: q32 :: q33 :: q34 :: q35 :: q36 :: q37 :: q38 :: q39 :: q40 :: q41 :: q42 :: q43 :: q44 :: q45 :: q46 :: q47 :: q48 :: (z 49) :: (z 50) :: (z 51) :: (z 52) :: (z 53) :: (z 54) :: (z 55) :: q56 :: q57 :: q58 :: q59 :: q60 :: q61 :: q62 :: q63 :: q64 :: q65 :: q66 :: q67 :: q68 :: q69 :: q70 :: q71 :: q72 :: q73 :: q74 :: q75 :: q76 :: q77 :: q78 :: q79 :: q80 :: q81 :: q82 :: q83 :: q84 :: q85 :: q86 :: q87 :: q88 :: q89 :: q90 :: q91 :: q92 :: q93 :: q94 :: q95 :: q96 :: q97 :: q98 :: q99 :: q100 :: q101 :: q102 :: q103 :: q104 :: q105 :: q106 :: q107 :: q108 :: q109 :: q110 :: q111 :: q112 :: q113 :: q114 :: q115 :: q116 :: q117 :: q118 :: q119 :: q120 :: q121 :: q122 :: q123 :: q124 :: q125 :: q126 :: q127 :: q128 :: q129 :: q130 :: q131 :: q132 :: q133 :: q134 :: q135 :: q136 :: q137 :: q138 :: q139 :: q140 :: q141 :: q142 :: q143 :: q144 :: q145 :: q146 :: q147 :: q148 :: q149 :: q150 :: q151 :: q152 :: q153 :: q154 :: q155 :: []), defers := [] } ∧ Box W' g 38 [v1, v'] ∧ Own Tk.enc 5 53 W' W0.heap.size v' ts ∧ Below W0.heap.size W0 W' ∧ W0.heap.size ≤ g)
      { tmps := List.toArray (q0 :: q1 :: (.pointer (some ⟨N, 0, none⟩)) :: q3 :: q4 :: q5 :: q6 :: q7 :: q8 :: q9 :: q10 :: q11 :: q12 :: q13 :: q14 :: q15 :: q16 :: q17 :: q18 :: q19 :: q20 :: q21 :: q22 :: q23 :: q24 :: q25 :: q26 :: q27 :: q28 :: q29 :: q30 :: q31 :: q32 :: q33 :: q34 :: q35 :: q36 :: q37 :: q38 :: q39 :: q40 :: q41 :: q42 :: q43 :: q44 :: q45 :: q46 :: q47 :: q48 :: q49 :: q50 :: q51 :: q52 :: q53 :: q54 :: q55 :: q56 :: q57 :: q58 :: q59 :: q60 :: q61 :: q62 :: q63 :: q64 :: q65 :: q66 :: q67 :: q68 :: q69 :: q70 :: q71 :: q72 :: q73 :: q74 :: q75 :: q76 :: q77 :: q78 :: q79 :: q80 :: q81 :: q82 :: q83 :: q84 :: q85 :: q86 :: q87 :: q88 :: q89 :: q90 :: q91 :: q92 :: q93 :: q94 :: q95 :: q96 :: q97 :: q98 :: q99 :: q100 :: q101 :: q102 :: q103 :: q104 :: q105 :: q106 :: q107 :: q108 :: q109 :: q110 :: q111 :: q112 :: q113 :: q114 :: q115 :: q116 :: q117 :: q118 :: q119 :: q120 :: q121 :: q122 :: q123 :: q124 :: q125 :: q126 :: q127 :: q128 :: q129 :: q130 :: q131 :: q132 :: q133 :: q134 :: q135 :: q136 :: q137 :: q138 :: q139 :: q140 :: q141 :: q142 :: q143 :: q144 :: q145 :: q146 :: q147 :: q148 :: q149 :: q150 :: q151 :: q152 :: q153 :: q154 :: q155 :: []), defers := [] } W0 := by
  obtain ⟨a1, m1, n1, rfl⟩ := hv1
  have x0 := hx.cell 0
  have x1 := hx.cell 1
  have xz := hx.lt
  simp only [List.getElem?_cons_zero, List.getElem?_cons_succ] at x0 x1
  have hN' : N ≤ W0.heap.size := Nat.le_of_lt hN
  have hNe : N ≠ W0.heap.size := Nat.ne_of_lt hN
  have hNe1 : N ≠ W0.heap.size + 1 := by omega
  have HN := Lib.hid hN'
  clear hN'
  have HAT := Lib.hid hat
  have HL := Lib.hid hl
  clear hx hN hat hl
  simp only [r68, c6, codeL, codeR, Try.f6, Option.getD]
  refine wp_region_noPanic ?_
  go_region_law ((refine step_catE Tk.enc 5 48 36 53 _ Try.underlying36 Try.infoTk rfl (by decide) (by decide) Tk.enc_len' Tk.enc_one [] ts W0.heap.size _ _ (cat_own (by repeat (first | exact row_at (by simp) | refine row_old ?_ | refine row_drew ?_)) (by first | exact Nat.le_refl _ | omega | (simp; done) | (simp; omega))) (by first | exact Nat.le_refl _ | (simp; done) | (simp; omega) | omega) (by have := HL.out; simp; omega) ap n2 (by
      intro h0
      obtain ⟨bb, off, e, hb2, hc⟩ := HAT.out h0
      refine ⟨_, e, fun i h j u hu => ?_⟩
      rw [Addr.add_lit]
      refine Eq.trans (Below.cell (w := W0) (p := ⟨bb, off + (i * 5 + j), none⟩) (B := W0.heap.size) ?_ hb2) (hc i h j u hu)
      repeat (first | exact Below.refl _ _ | refine Below.alloc ?_ (by simp) _ | refine Below.drew ?_)) ⟨_, _, rfl⟩ rfl _ _ rfl rfl rfl ?_; intro v' w' hown hgr; rw [List.nil_append] at hown; obtain ⟨av, cv, rfl⟩ := hown.shape; simp only [Value.ownBlock] at hgr; have q4 : N < w'.heap.size := Nat.lt_of_lt_of_le (by first | exact xz | (simp; omega)) hgr.size; have q5 := fun o => World.cell?_of_block (a := ⟨N, o, none⟩) (hgr.block N (by first | exact xz | (simp; omega)) (by simp; omega)); have q0 := fun o h1 h2 => World.cell?_of_block (a := ⟨W0.heap.size, o, none⟩) (hgr.block W0.heap.size h1 h2); have q1 := fun o h1 h2 => World.cell?_of_block (a := ⟨W0.heap.size + 1, o, none⟩) (hgr.block (W0.heap.size + 1) h1 h2); have q2 := fun o h1 h2 => World.frozen?_of_block (a := ⟨W0.heap.size, o, none⟩) (hgr.block W0.heap.size h1 h2); have q3 := fun o h1 h2 => World.frozen?_of_block (a := ⟨W0.heap.size + 1, o, none⟩) (hgr.block (W0.heap.size + 1) h1 h2)))
  all_goals refine NoPanic.normal ?_
  all_goals
    refine ⟨rfl, ?_⟩
    first
      | (with_reducible refine ⟨_, _, fun i => ([.pointer (some ⟨N, 0, none⟩), .slice a1 m1 n1, .slice (some ⟨W0.heap.size, 0, none⟩) 0 0, .pointer (some ⟨N, 1, none⟩), .slice ap ts.length n2, .slice av ts.length cv, .agg #[.slice a1 m1 n1, .slice av ts.length cv]] : List Value).getD (i - 49) undef, ?_, ca1 hgr hown⟩)
      | (with_reducible refine ⟨_, _, fun i => ([.pointer (some ⟨N, 0, none⟩), .slice a1 m1 n1, .slice (some ⟨W0.heap.size, 0, none⟩) 0 0, .pointer (some ⟨N, 1, none⟩), .slice ap ts.length n2, .slice av ts.length cv, .agg #[.slice a1 m1 n1, .slice av ts.length cv]] : List Value).getD (i - 49) undef, ?_, ca2 hgr hown⟩)
      | (with_reducible refine ⟨_, _, fun i => ([.pointer (some ⟨N, 0, none⟩), .slice a1 m1 n1, .slice (some ⟨W0.heap.size + 1, 0, none⟩) 0 0, .pointer (some ⟨N, 1, none⟩), .slice ap ts.length n2, .slice av ts.length cv, .agg #[.slice a1 m1 n1, .slice av ts.length cv]] : List Value).getD (i - 49) undef, ?_, ca3 hgr hown⟩)
    rfl
end Go.Proofs.Ytlakcghdehdeiaa

/- The law of Settles, walked. -/
namespace Go.Proofs.Ytlakcghdehdeiaa
open Go Go.Proofs Go.RowKit

/-- What the loop over the tight ranges has. -/
structure SeW (W4 wr : World) (g : Nat) (s1 v' : Value) (ts : List Tk) (rs : List Rg) (k : Nat) : Prop where
  below : Below W4.heap.size W4 wr
  box : Box wr g 38 [s1, v']
  own : Own Tk.enc 5 53 wr W4.heap.size v' (setK ts rs k)
theorem SeW.step {W4 wr W' W'' : World} {g gg c' k m : Nat} {s1 : Value} {ts : List Tk} {rs : List Rg} (h : SeW W4 wr g s1 (.slice (some ⟨gg, 0, none⟩) m c') ts rs k) (hm : ts.length = m) (hk : k < m) (hr : rs.length = m) (hb : Below wr.heap.size wr W') (lo hi : Int) (hlo : rs[k]'(by omega) = ⟨lo, hi⟩)
    (e : W'' = (W'.setCell ⟨gg, k * 5 + 3, none⟩ (.int .i64 lo)).setCell ⟨gg, k * 5 + 3 + 1, none⟩ (.int .i64 hi)) : SeW W4 W'' g s1 (.slice (some ⟨gg, 0, none⟩) m c') ts rs (k + 1) := by
  subst e
  have hge : W4.heap.size ≤ gg := h.own.lt' gg rfl
  have hne : gg ≠ g := fun e => h.own.other_type h.box (by decide) (by rw [e]; rfl)
  refine ⟨((h.below.trans (hb.mono h.below.size)).setCell hge _).setCell hge _, ((h.box.later hb).other _ hne).other _ hne, ?_⟩
  have hl : (setK ts rs k).length = m := by rw [setK_len, hm]
  have hg : (setK ts rs k)[k]'(by omega) = ts[k]'(by omega) := by rw [setK_get _ _ _ _ (by omega), if_neg (by omega)]
  have o1 := (h.own.later hb).setN hl Tk.enc_len' k (by omega) 3 (by omega) (.int .i64 lo) (setT (ts[k]'(by omega)) ⟨lo, (ts[k]'(by omega)).m.hi⟩) (by rw [hg]; rfl)
  have hl2 : ((setK ts rs k).set k (setT (ts[k]'(by omega)) ⟨lo, (ts[k]'(by omega)).m.hi⟩)).length = m := by simp [hl]
  have o2 := o1.setN hl2 Tk.enc_len' k (by omega) 4 (by omega) (.int .i64 hi) (setT (ts[k]'(by omega)) ⟨lo, hi⟩) (by rw [List.getElem_set_self]; rfl)
  rw [List.set_set, ← hlo, setK_succ ts rs k (by omega) (by omega)] at o2
  exact o2
theorem ids_setM {b : Bk} {rs : List Rg} (h : rs.length = b.ts.length) (hid : ∀ t ∈ b.ts, t.id.size ≤ 9223372036854775807) : ∀ t ∈ (b.setM rs).ts, t.id.size ≤ 9223372036854775807 := by
  intro t ht
  obtain ⟨i, hi, rfl⟩ := List.mem_iff_getElem.1 ht
  have hi' : i < b.ts.length := by rwa [setM_len h] at hi
  rw [setM_get h i hi']
  exact hid b.ts[i] (List.getElem_mem hi')
theorem SeW.book {W4 wr : World} {g : Nat} {s1 v' : Value} {b : Bk} {rs : List Rg} (h : SeW W4 wr g s1 v' b.ts rs b.ts.length) (hr : rs.length = b.ts.length) (hl : b.ts.length ≤ 1000) (hs : Sl Rg.enc 2 wr wr.heap.size s1 b.st) (hid : ∀ t ∈ b.ts, t.id.size ≤ 9223372036854775807) :
    BkR wr wr.heap.size s1 v' (b.setM rs) := by
  refine ⟨hs, ?_, ids_setM hr hid⟩
  have := h.own
  rw [setK_all _ _ hr] at this
  exact this.toSl Tk.enc_len' (by simp [hr]; omega)
/-- The change of the tight book. -/
theorem tight_change {b : Bk} {ps : List Int} {rs : List Rg} (hck : ckBook b = 0) (hcon : Con b) (hT : TightS b rs) (hn : ckNums ps b.st.length = 0) {x y : Rg} {E E' : Int} (h : ChOut b ps x E) (h' : ChOut (b.setM rs) ps y E') :
    y = x ∧ E' = E ∧ (E = 4 ∨ (E = 0 ∧ stLo b ps ≤ x.lo ∧ x.lo ≤ x.hi ∧ x.hi ≤ stHi b ps)) := by
  have hok := okBk_of hck
  have hck2 := ck_setM hck hT.len (hT.mass hok)
  have hok2 := okBk_of hck2
  have hc2 : Con (b.setM rs) := (hT.con hok).2 hcon
  have hpl := okPl_of hn
  have e1 : chE b ps = 0 := by unfold chE; rw [hck, hn]; rfl
  have e2 : chE (b.setM rs) ps = 0 := by
    unfold chE
    rw [hck2, show (b.setM rs).st.length = b.st.length from rfl, hn]; rfl
  rcases h with ⟨q, _⟩ | ⟨_, q, _⟩ | ⟨_, _, lo, hi, ht, hx⟩
  · exact absurd e1 q
  · exact absurd hcon q
  rcases h' with ⟨q, _⟩ | ⟨_, q, _⟩ | ⟨_, _, lo', hi', ht', hx'⟩
  · exact absurd e2 q
  · exact absurd hc2 q
  have s1 := together_span hok hpl.nodup hpl.inr ht
  have s2 := together_span hok2 hpl.nodup hpl.inr ht'
  rw [show (fun ms => gain ps (b.setM rs).ts ms) = (fun ms => gain ps b.ts ms) from funext fun ms => gain_setM ps b.ts rs ms hT.len] at s2
  obtain ⟨rfl, rfl⟩ := (hT.span.1 s2).unique s1
  have hw := change_within hpl s1
  rcases hx with ⟨q, rfl, rfl⟩ | ⟨q, rfl, rfl⟩ <;> rcases hx' with ⟨q', rfl, rfl⟩ | ⟨q', rfl, rfl⟩
  · exact ⟨rfl, rfl, .inl rfl⟩
  · exact absurd q' q
  · exact absurd q q'
  · exact ⟨rfl, rfl, .inr ⟨rfl, hw⟩⟩
theorem stLo_take {b : Bk} {P : List Int} (k : Nat) (h : k < P.length) : stLo b (P.take (k + 1)) = stLo b (P.take k) + (b.st.getD P[k].toNat default).lo := by
  rw [List.take_succ_eq_append_getElem h]; unfold stLo; rw [tot_snoc]
theorem stHi_take {b : Bk} {P : List Int} (k : Nat) (h : k < P.length) : stHi b (P.take (k + 1)) = stHi b (P.take k) + (b.st.getD P[k].toNat default).hi := by
  rw [List.take_succ_eq_append_getElem h]; unfold stHi; rw [tot_snoc]
theorem st_bound {b : Bk} (hok : OkBk b) {P : List Int} (hP : OkPl b P) (k : Nat) : -40000000000 ≤ stLo b (P.take k) ∧ stLo b (P.take k) ≤ 40000000000 ∧ -40000000000 ≤ stHi b (P.take k) ∧ stHi b (P.take k) ≤ 40000000000 := by
  have hl : (P.take k).length ≤ 32 := by have := hP.short; have := hok.st32; simp; omega
  have hx : ∀ p ∈ P.take k, -999999999 ≤ (b.st.getD p.toNat default).lo ∧ (b.st.getD p.toNat default).lo ≤ 999999999 ∧ -999999999 ≤ (b.st.getD p.toNat default).hi ∧ (b.st.getD p.toNat default).hi ≤ 999999999 := by
    intro p hp
    have h1 := hP.inr p (List.mem_of_mem_take hp)
    have h2 : p.toNat < b.st.length := by omega
    rw [List.getD_eq_getElem?_getD, List.getElem?_eq_getElem h2]
    have := hok.st b.st[p.toNat] (List.getElem_mem h2)
    simp only [Option.getD_some]
    omega
  have h1 := tot_bound (fun p : Int => (b.st.getD p.toNat default).lo) 999999999 (P.take k) (fun p hp => by have := hx p hp; omega)
  have h2 := tot_bound (fun p : Int => (b.st.getD p.toNat default).hi) 999999999 (P.take k) (fun p hp => by have := hx p hp; omega)
  unfold stLo stHi
  generalize (P.take k).length = q at *
  have : (q : Int) * 999999999 ≤ 32 * 999999999 := by omega
  omega

set_option maxRecDepth 100000 in
set_option maxHeartbeats 1000000 in
theorem settles6_dark (v1 v2 : Value) (a : Option Addr) (n c : Nat) (w : World) (h : Dark w (.agg #[v1, v2])) (hs : (∃ a n c, v1 = .slice a n c) ∧ ∃ a n c, v2 = .slice a n c) :
    Calls Try.prog 6 #[.agg #[v1, v2], .slice a n c] w (Ret (.bool true) w) := by
  obtain ⟨⟨a1, n1, c1, rfl⟩, a2, n2, c2, rfl⟩ := hs
  have H := Lib.hid h
  clear h
  go_enter Try.func6, Try.ntmps6
  go_wp2_with fail
  refine (awake16 _).mono ?_
  rintro e w1 ⟨rfl, hb1⟩
  have HX := Lib.hid ((Box.new w #[.slice a1 n1 c1, .slice a2 n2 c2] 38).later hb1)
  have HB1 := Lib.hid (((Below.refl w.heap.size w).alloc (Nat.le_refl _) (.cells #[.slice a1 n1 c1, .slice a2 n2 c2] 38)).trans (hb1.mono (by simp)))
  clear hb1
  obtain ⟨x0, x1, xf, xz⟩ := HX.out.v2
  go_wp2_with fail
  refine (H.out _ HB1.out).mono ?_
  rintro e w2 ⟨rfl, hb2⟩
  have HB2 := Lib.hid (HB1.out.trans (hb2.mono HB1.out.size))
  clear hb2 x0 x1 xf xz
  go_wp2_with fail
  refine (awake16 _).mono ?_
  rintro e w3 ⟨rfl, hb3⟩
  have HB3 := Lib.hid (HB2.out.trans (hb3.mono HB2.out.size))
  clear hb3
  go_wp2_with fail
  go_ret
  exact ⟨rfl, HB3.out⟩

set_option maxRecDepth 100000 in
set_option maxHeartbeats 1000000 in
theorem settles6_out (v1 v2 u : Value) (w : World) (b : Bk) (ps : List Int) (hv : BkR w w.heap.size v1 v2 b) (hu : SlL encI 1 w w.heap.size u ps) (hlt : lightB b = true) (hn : ckNums ps b.st.length ≠ 0) :
    Calls Try.prog 6 #[.agg #[v1, v2], u] w (Ret (.bool true) w) := by
  have H := Lib.hid (fun (w1 : World) (hb : Below w.heap.size w w1) => light34 v1 v2 b w1 (hv.later hb))
  have C30 := Lib.hid (fun (w1 : World) (hb : Below w.heap.size w w1) => ckNums30_long u ps b.st.length w1 (hu.later hb))
  rw [hlt] at H
  obtain ⟨CN, hCN⟩ : ∃ CN, ckNums ps b.st.length = CN := ⟨_, rfl⟩
  rw [hCN] at C30 hn
  obtain ⟨⟨a1, n1, hv1, hl1, hA1⟩, ⟨a2, n2, hv2, hl2, hA2⟩, hids⟩ := hv
  subst hv1 hv2
  obtain ⟨a3, n3, hv3, hl3, hA3⟩ := hu
  subst hv3
  clear hA1 hA2 hA3 hids hlt hCN
  have k0 : (CN == 0) = false := beq_eq_false_iff_ne.2 hn
  have k1 : (CN != 0) = true := bne_iff_ne.2 hn
  go_enter Try.func6, Try.ntmps6
  go_wp2_with fail
  refine (awake16 _).mono ?_
  rintro e w1 ⟨rfl, hb1⟩
  have HX1 := Lib.hid ((Box.new w #[.slice a1 b.st.length n1, .slice a2 b.ts.length n2] 38).later hb1)
  have HB1 := Lib.hid (((Below.refl w.heap.size w).alloc (Nat.le_refl _) (.cells #[.slice a1 b.st.length n1, .slice a2 b.ts.length n2] 38)).trans (hb1.mono (by simp)))
  clear hb1
  obtain ⟨x0, x1, xf, xz⟩ := HX1.out.v2
  go_wp2_with fail
  refine (H.out _ HB1.out).mono ?_
  rintro e w2 ⟨rfl, hb2⟩
  have HX2 := Lib.hid (HX1.out.later hb2)
  have HB2 := Lib.hid (HB1.out.trans (hb2.mono HB1.out.size))
  clear hb2 x0 x1 xf xz HX1 HB1
  obtain ⟨x0, x1, xf, xz⟩ := HX2.out.v2
  go_wp2_with fail
  refine (C30.out _ HB2.out).mono ?_
  rintro e w3 ⟨rfl, hb3⟩
  have HX3 := Lib.hid (HX2.out.later hb3)
  have HB3 := Lib.hid (HB2.out.trans (hb3.mono HB2.out.size))
  clear hb3 x0 x1 xf xz HX2 HB2
  obtain ⟨x0, x1, xf, xz⟩ := HX3.out.v2
  go_wp2_with fail
  refine (awake16 _).mono ?_
  rintro e w4 ⟨rfl, hb4⟩
  have HX4 := Lib.hid (HX3.out.later hb4)
  have HB4 := Lib.hid (HB3.out.trans (hb4.mono HB3.out.size))
  clear hb4 x0 x1 xf xz HX3 HB3
  obtain ⟨x0, x1, xf, xz⟩ := HX4.out.v2
  go_wp2_with fail
  go_ret
  exact ⟨rfl, HB4.out⟩

set_option maxRecDepth 100000 in
set_option maxHeartbeats 1000000 in
theorem settles6 (v1 v2 u : Value) (w : World) (b : Bk) (ps : List Int) (hv : BkR w w.heap.size v1 v2 b) (hu : Sl encI 1 w w.heap.size u ps) (hlt : lightB b = true) (hn : ckNums ps b.st.length = 0) :
    Calls Try.prog 6 #[.agg #[v1, v2], u] w (Ret (.bool true) w) := by
  have hl3 : b.st.length ≤ 6 ∧ b.ts.length ≤ 8 ∧ ckBook b = 0 := by simpa [lightB] using hlt
  obtain ⟨h6, h8, hck⟩ := hl3
  have hok := okBk_of hck
  have H := Lib.hid (fun (w1 : World) (hb : Below w.heap.size w w1) => light34 v1 v2 b w1 (hv.later hb))
  have C30 := Lib.hid (fun (w1 : World) (hb : Below w.heap.size w w1) => (hn ▸ ckNums30 u ps b.st.length w1 (hu.later hb) : Calls Try.prog 30 #[u, .int .i64 b.st.length] w1 (Ret (.int .i64 0) w1)))
  have C35 := Lib.hid (fun (w1 : World) (hb : Below w.heap.size w w1) => tight_p w1 v1 v2 b (hv.later hb) hck)
  have C29 := Lib.hid (fun (w1 : World) (hb : Below w.heap.size w w1) => change_p w1 v1 v2 u b ps (hv.later hb) (hu.later hb))
  have D35 := Lib.hid (fun (w1 : World) (q : Value) (rs : List Rg) (hT : TightS b rs) (h : BkR w1 w1.heap.size v1 q (b.setM rs)) => tight_p w1 v1 q (b.setM rs) h (ck_setM hck hT.len (hT.mass hok)))
  have D29 := Lib.hid (fun (w1 : World) (hb : Below w.heap.size w w1) (q : Value) (rs : List Rg) (h : BkR w1 w1.heap.size v1 q (b.setM rs)) => change_p w1 v1 q u (b.setM rs) ps h (hu.later hb))
  rw [hlt] at H
  have ECK := Lib.hid hck
  have EOK := Lib.hid hok
  have ECN := Lib.hid hn
  have EST := Lib.hid (fun (w1 : World) (hb : Below w.heap.size w w1) => hv.st.later hb)
  have EID := Lib.hid hv.ids
  have hpl := okPl_of hn
  have EPL := Lib.hid hpl
  have EBD := Lib.hid (st_bound hok hpl)
  have hplen := hpl.short
  obtain ⟨⟨a1, n1, hv1, hl1, hA1⟩, ⟨a2, n2, hv2, hl2, hA2⟩, hids⟩ := hv
  subst hv1 hv2
  obtain ⟨a3, n3, hv3, hl3, hA3⟩ := hu
  subst hv3
  have HA1 := Lib.hid hA1
  have HA2 := Lib.hid hA2
  have HA3 := Lib.hid hA3
  clear hA1 hA2 hA3 hids hlt hck hok hn hpl
  obtain ⟨p8, hp8⟩ : ∃ p, r68 = p := ⟨_, rfl⟩
  have HP8 := Lib.hid hp8
  simp only [r68, c6, codeL, codeR, Try.f6, Option.getD] at hp8
  have HP8L := Lib.hid hp8
  clear hp8
  go_enter Try.func6, Try.ntmps6
  go_wp2_with fail
  refine (awake16 _).mono ?_
  rintro e w1 ⟨rfl, hb1⟩
  have HX1 := Lib.hid ((Box.new w #[.slice a1 b.st.length n1, .slice a2 b.ts.length n2] 38).later hb1)
  have HB1 := Lib.hid (((Below.refl w.heap.size w).alloc (Nat.le_refl _) (.cells #[.slice a1 b.st.length n1, .slice a2 b.ts.length n2] 38)).trans (hb1.mono (by simp)))
  clear hb1
  obtain ⟨x0, x1, xf, xz⟩ := HX1.out.v2
  go_wp2_with fail
  refine (H.out _ HB1.out).mono ?_
  rintro e w2 ⟨rfl, hb2⟩
  have HX2 := Lib.hid (HX1.out.later hb2)
  have HB2 := Lib.hid (HB1.out.trans (hb2.mono HB1.out.size))
  clear hb2 x0 x1 xf xz HX1 HB1
  obtain ⟨x0, x1, xf, xz⟩ := HX2.out.v2
  go_wp2_with fail
  refine (C30.out _ HB2.out).mono ?_
  rintro e w3 ⟨rfl, hb3⟩
  have HX3 := Lib.hid (HX2.out.later hb3)
  have HB3 := Lib.hid (HB2.out.trans (hb3.mono HB2.out.size))
  clear hb3 x0 x1 xf xz HX2 HB2
  obtain ⟨x0, x1, xf, xz⟩ := HX3.out.v2
  go_wp2_with fail
  refine (C35.out _ HB3.out).mono ?_
  rintro e w4 ⟨hb4, hor⟩
  have HX4 := Lib.hid (HX3.out.later hb4)
  have HB4 := Lib.hid (HB3.out.trans (hb4.mono HB3.out.size))
  clear hb4 x0 x1 xf xz HX3 HB3
  obtain ⟨x0, x1, xf, xz⟩ := HX4.out.v2
  rcases hor with ⟨hnc, rfl⟩ | ⟨hc, at_, ct_, rs, rfl, hst, hts⟩
  · go_wp2_with fail
    go_ret
    exact ⟨rfl, HB4.out⟩
  · have HC := Lib.hid hc
    have HT4 := Lib.hid hst
    have HTS := Lib.hid hts
    have HRL := Lib.hid hts.len
    clear hst hts
    go_wp2_with fail
    rw [HP8L.out]
    rw [← HP8.out]
    refine wp_mono (r68_walk w4 w.heap.size _ a2 n2 b.ts xz HX4.out (by omega) (fun h0 => by
      obtain ⟨bb, off, e, h1, h2⟩ := HA2.out h0
      refine ⟨bb, off, e, by have := HB4.out.size; omega, fun i h j u hu => ?_⟩
      have := ((h2 i h).below HB4.out h1) j u hu
      rwa [Nat.add_assoc] at this) ⟨_, _, _, rfl⟩) ?_
    rintro e a W5 ⟨rfl, g, v', z, rfl, hbx, hown, hb5, hge⟩
    have HSE0 : Hid (SeW w4 W5 g (.slice a1 b.st.length n1) v' b.ts rs 0) := Lib.hid ⟨hb5, hbx, by rw [setK_zero]; exact hown⟩
    have HGE := Lib.hid (show w.heap.size < g by omega)
    clear hb5 hbx hown x0 x1 xf xz hge
    go_wp2_with fail
    go_loopw [8] (fun i wr => ∃ k : Nat, k ≤ b.ts.length ∧ i = .int .i64 k ∧ SeW w4 wr g (.slice a1 b.st.length n1) v' b.ts rs k) (fun i _ => b.ts.length - (intOf i).toNat)
    case atStart => exact ⟨0, by omega, rfl, HSE0.out⟩
    case round =>
      clear HSE0
      obtain ⟨k, hk, rfl, hse⟩ := hrel
      have HSE := Lib.hid hse
      by_cases hlt : k < b.ts.length
      · obtain ⟨gg, c', hvv, hgg, hggz⟩ := hse.own.form (by rw [setK_len]; omega)
        rw [setK_len] at hvv
        subst hvv
        have zc := (hse.own.atN (setK_len _ _ _) Tk.enc_len' k (by rw [setK_len]; exact hlt)).c5
        obtain ⟨z0, z1, z2, z3, z4⟩ := zc
        have zf := hse.own.frozenN (setK_len _ _ _)
        obtain ⟨d0, d1, df, dz⟩ := hse.box.v2
        obtain ⟨_, _, e1, _, hA⟩ := HT4.out.later hse.below
        injection e1 with e1 e2 e3
        subst e1 e3
        clear e2
        obtain ⟨bt, ot, hat, hbt, htc⟩ := hA (by rw [HRL.out]; omega)
        subst hat
        obtain ⟨r0, r1⟩ := (htc k (by rw [HRL.out]; exact hlt)).c2
        obtain ⟨ri, hri⟩ : ∃ r, rs[k]'(by rw [HRL.out]; exact hlt) = r := ⟨_, rfl⟩
        rw [hri] at r0 r1
        obtain ⟨rl, rh⟩ := ri
        dsimp only at r0 r1
        have HBU := Lib.hid (fun W' (hb : Below wr.heap.size wr W') W'' e => HSE.out.step (W' := W') (W'' := W'') rfl hlt HRL.out hb rl rh hri e)
        clear hri htc hA hse z0 z1 z2
        go_wp2_with fail
        refine wp_region_head_drew 9 (by kernel_rfl) (by kernel_rfl) ?_
        simp only [List.take_succ_cons, List.take_zero, List.drop_succ_cons, List.drop_zero]
        repeat go_big_quiet_step (fail)
        refine wpQuiet_nil ?_
        rintro _ ⟨nq, rfl⟩
        go_wp2_with fail
        go_roundw
        case rel => exact ⟨k + 1, by omega, by go_num, HBU.out _ (below_drewN (Below.refl _ _) nq) _ rfl⟩
        case measure => simp [intOf]; omega
      · obtain rfl : b.ts.length = k := by omega
        have hx := HX4.out.later hse.below
        have hb := HB4.out.trans (hse.below.mono HB4.out.size)
        have HX20 := Lib.hid hx
        have HB20 := Lib.hid hb
        have HT20 := Lib.hid (HT4.out.later hse.below)
        have HG20 := Lib.hid hse.box
        have HK20 := Lib.hid (hse.book HRL.out (by omega) (EST.out wr hb) EID.out)
        clear hx hb hse HSE
        obtain ⟨x0, x1, xf, xz⟩ := HX20.out.v2
        obtain ⟨g0, g1, gf, gz⟩ := HG20.out.v2
        go_wp2_with fail
        refine (D35.out _ _ rs HTS.out HK20.out).mono ?_
        rintro e w21 ⟨hb21, hor⟩
        rcases hor with ⟨hx, _⟩ | ⟨_, au, cu, us, rfl, hus, hut⟩
        · exact absurd ((HTS.out.con EOK.out).2 HC.out) hx
        have hE := HTS.out.back hut
        rw [hE, setM_len HTS.out.len] at hus
        rw [setM_len HTS.out.len]
        have HU21 := Lib.hid hus
        clear hus hut hE
        have HX21 := Lib.hid (HX20.out.later hb21)
        have HB21 := Lib.hid (HB20.out.trans (hb21.mono HB20.out.size))
        have HT21 := Lib.hid (HT20.out.later hb21)
        have HG21 := Lib.hid (HG20.out.later hb21)
        have HK21 := Lib.hid (HK20.out.later hb21)
        clear g0 g1 gf gz hb21 x0 x1 xf xz HX20 HB20 HT20 HG20 HK20
        obtain ⟨x0, x1, xf, xz⟩ := HX21.out.v2
        obtain ⟨g0, g1, gf, gz⟩ := HG21.out.v2
        go_wp2_with fail
        refine (C29.out _ HB21.out).mono ?_
        rintro e w22 ⟨x, E, rfl, hcx, hb22⟩
        have HCX := Lib.hid hcx
        clear hcx
        have HX22 := Lib.hid (HX21.out.later hb22)
        have HB22 := Lib.hid (HB21.out.trans (hb22.mono HB21.out.size))
        have HT22 := Lib.hid (HT21.out.later hb22)
        have HG22 := Lib.hid (HG21.out.later hb22)
        have HK22 := Lib.hid (HK21.out.later hb22)
        have HU22 := Lib.hid (HU21.out.later hb22)
        clear g0 g1 gf gz hb22 x0 x1 xf xz HX21 HB21 HT21 HG21 HK21 HU21
        obtain ⟨x0, x1, xf, xz⟩ := HX22.out.v2
        obtain ⟨g0, g1, gf, gz⟩ := HG22.out.v2
        have hba : Below w22.heap.size w22 (w22.alloc (.cells #[.int .i64 x.lo, .int .i64 x.hi] 24)) := (Below.refl _ _).alloc (Nat.le_refl _) _
        have HP23 := Lib.hid (Box.new w22 #[.int .i64 x.lo, .int .i64 x.hi] 24)
        have HX23 := Lib.hid (HX22.out.later hba)
        have HB23 := Lib.hid (HB22.out.trans (hba.mono HB22.out.size))
        have HT23 := Lib.hid (HT22.out.later hba)
        have HG23 := Lib.hid (HG22.out.later hba)
        have HK23 := Lib.hid (HK22.out.later hba)
        have HU23 := Lib.hid (HU22.out.later hba)
        have HPN := Lib.hid (show ∃ q, q = w22.alloc (.cells #[.int .i64 x.lo, .int .i64 x.hi] 24) from ⟨_, rfl⟩)
        go_wp2_with fail
        generalize w22.alloc (.cells #[.int .i64 x.lo, .int .i64 x.hi] 24) = w23 at *
        generalize w22.heap.size = B1 at *
        clear HPN g0 g1 gf gz hba x0 x1 xf xz HX22 HB22 HT22 HG22 HK22 HU22
        obtain ⟨x0, x1, xf, xz⟩ := HX23.out.v2
        obtain ⟨g0, g1, gf, gz⟩ := HG23.out.v2
        refine (D29.out _ HB23.out _ rs HK23.out).mono ?_
        rintro e w24 ⟨y, E', rfl, hcy, hb24⟩
        obtain ⟨rfl, rfl, hend⟩ := tight_change ECK.out HC.out HTS.out ECN.out HCX.out hcy
        clear hcy
        have HEND := Lib.hid hend
        clear hend
        have HX24 := Lib.hid (HX23.out.later hb24)
        have HB24 := Lib.hid (HB23.out.trans (hb24.mono HB23.out.size))
        have HT24 := Lib.hid (HT23.out.later hb24)
        have HG24 := Lib.hid (HG23.out.later hb24)
        have HK24 := Lib.hid (HK23.out.later hb24)
        have HU24 := Lib.hid (HU23.out.later hb24)
        have HP24 := Lib.hid (HP23.out.later hb24)
        clear g0 g1 gf gz hb24 x0 x1 xf xz HX23 HB23 HT23 HG23 HK23 HU23 HP23
        obtain ⟨x0, x1, xf, xz⟩ := HX24.out.v2
        have hba : Below w24.heap.size w24 (w24.alloc (.cells #[.int .i64 y.lo, .int .i64 y.hi] 24)) := (Below.refl _ _).alloc (Nat.le_refl _) _
        have HQ25 := Lib.hid (Box.new w24 #[.int .i64 y.lo, .int .i64 y.hi] 24)
        have HX25 := Lib.hid (HX24.out.later hba)
        have HB25 := Lib.hid (HB24.out.trans (hba.mono HB24.out.size))
        have HT25 := Lib.hid (HT24.out.later hba)
        have HG25 := Lib.hid (HG24.out.later hba)
        have HK25 := Lib.hid (HK24.out.later hba)
        have HU25 := Lib.hid (HU24.out.later hba)
        have HP25 := Lib.hid (HP24.out.later hba)
        obtain ⟨p0, p1, pf, pz⟩ := HP24.out.v2
        have k1 : (E' == E') = true := beq_self_eq_true _
        have k2 : (y.lo == y.lo) = true := beq_self_eq_true _
        have k3 : (y.hi == y.hi) = true := beq_self_eq_true _
        go_wp2_with fail
        generalize w24.alloc (.cells #[.int .i64 y.lo, .int .i64 y.hi] 24) = w25 at *
        generalize w24.heap.size = B2 at *
        clear p0 p1 pf pz hba x0 x1 xf xz HX24 HB24 HT24 HG24 HK24 HU24 HP24
        obtain ⟨x0, x1, xf, xz⟩ := HX25.out.v2
        obtain ⟨p0, p1, pf, pz⟩ := HP25.out.v2
        obtain ⟨q0, q1, qf, qz⟩ := HQ25.out.v2
        refine (ranges_ok _ _ rs rs 0 0 w25 (by have h := HU25.out; exact h) HT25.out (by simp [rangesP])).mono ?_
        rintro e w26 ⟨rfl, hb26⟩
        have HX26 := Lib.hid (HX25.out.later hb26)
        have HB26 := Lib.hid (HB25.out.trans (hb26.mono HB25.out.size))
        have HP26 := Lib.hid (HP25.out.later hb26)
        have HQ26 := Lib.hid (HQ25.out.later hb26)
        clear hb26 x0 x1 xf xz p0 p1 pf pz q0 q1 qf qz HX25 HB25 HT25 HG25 HK25 HU25 HP25 HQ25
        obtain ⟨x0, x1, xf, xz⟩ := HX26.out.v2
        obtain ⟨p0, p1, pf, pz⟩ := HP26.out.v2
        obtain ⟨q0, q1, qf, qz⟩ := HQ26.out.v2
        rcases HEND.out with rfl | ⟨rfl, hw1, hw2, hw3⟩
        · go_wp2_with fail
          go_ret
          exact ⟨rfl, HB26.out⟩
        · have HW1 := Lib.hid hw1
          have HW3 := Lib.hid hw3
          clear hw1 hw3
          go_wp2_with fail
          clear q0 q1 qf qz HQ26
          go_loopw [17, 15, 16] (fun i lo hi wr => ∃ k : Nat, k ≤ ps.length ∧ i = .int .i64 k ∧ lo = .int .i64 (stLo b (ps.take k)) ∧ hi = .int .i64 (stHi b (ps.take k)) ∧ Below w26.heap.size w26 wr) (fun i _ _ _ => ps.length - (intOf i).toNat)
          case atStart => exact ⟨0, by omega, rfl, rfl, rfl, Below.refl _ _⟩
          case round =>
            obtain ⟨k, hk, rfl, rfl, rfl, hbr⟩ := hrel
            clear x0 x1 xf xz p0 p1 pf pz
            have HX40 := Lib.hid (HX26.out.later hbr)
            have HB40 := Lib.hid (HB26.out.trans (hbr.mono HB26.out.size))
            have HP40 := Lib.hid (HP26.out.later hbr)
            have HBR := Lib.hid hbr
            clear hbr
            obtain ⟨x0, x1, xf, xz⟩ := HX40.out.v2
            obtain ⟨p0, p1, pf, pz⟩ := HP40.out.v2
            obtain ⟨bd1, bd2, bd3, bd4⟩ := EBD.out k
            by_cases hlt : k < ps.length
            · have hin := EPL.out.inr ps[k] (List.getElem_mem hlt)
              have HSL := Lib.hid (stLo_take (b := b) (P := ps) k hlt)
              have HSH := Lib.hid (stHi_take (b := b) (P := ps) k hlt)
              obtain ⟨bd5, bd6, bd7, bd8⟩ := EBD.out (k + 1)
              obtain ⟨b3, o3, hat3, hb3, hc3⟩ := HA3.out (by omega)
              subst hat3
              have c0 := ((hc3 k hlt).below HB40.out hb3).c1
              rw [Nat.mul_one] at c0
              obtain ⟨q, hq⟩ : ∃ q : Nat, ps[k] = q := ⟨ps[k].toNat, by omega⟩
              rw [hq] at c0 hin
              have hqn : q < b.st.length := by omega
              obtain ⟨b1, o1, hat1, hb1, hc1⟩ := HA1.out (by omega)
              subst hat1
              obtain ⟨e0, e1⟩ := ((hc1 q hqn).below HB40.out hb1).c2
              have HG := Lib.hid (show b.st.getD (ps[k]).toNat default = b.st[q] by rw [hq]; simp [List.getD_eq_getElem?_getD, hqn])
              rw [HG.out] at HSL HSH
              have hz3 : b3 < wr.heap.size := by have := HB40.out.size; omega
              have hz1 : b1 < wr.heap.size := by have := HB40.out.size; omega
              have HBD := Lib.hid (show -40000000000 ≤ stLo b (ps.take (k + 1)) ∧ stLo b (ps.take (k + 1)) ≤ 40000000000 ∧ -40000000000 ≤ stHi b (ps.take (k + 1)) ∧ stHi b (ps.take (k + 1)) ≤ 40000000000 from ⟨bd5, bd6, bd7, bd8⟩)
              have hs1 := HSL.out
              have hs2 := HSH.out
              generalize stLo b (ps.take k) = A0 at *
              generalize stHi b (ps.take k) = A1 at *
              obtain ⟨Z0, hZ0⟩ : ∃ Z, stLo b (ps.take (k + 1)) = Z := ⟨_, rfl⟩
              obtain ⟨Z1, hZ1⟩ : ∃ Z, stHi b (ps.take (k + 1)) = Z := ⟨_, rfl⟩
              rw [hZ0] at hs1 bd5 bd6
              rw [hZ1] at hs2 bd7 bd8
              have HZ0 := Lib.hid hZ0
              have HZ1 := Lib.hid hZ1
              clear hZ0 hZ1 HSL HSH HBD
              generalize b.st[q] = t at *
              obtain ⟨lo, hi⟩ := t
              dsimp only at e0 e1 hs1 hs2
              have m0 : IntKind.i64.wrap (A0 + lo) = A0 + lo := IntWalk.i64_in _ (by omega)
              have m1 : IntKind.i64.wrap (A1 + hi) = A1 + hi := IntWalk.i64_in _ (by omega)
              have HS1 := Lib.hid hs1
              have HS2 := Lib.hid hs2
              clear hs1 hs2 hc1 hc3 hq hin
              go_wp2_with fail
              go_quiet (fail)
              go_wp2_with fail
              go_roundw
              case rel => exact ⟨k + 1, by omega, by go_num, by rw [HZ0.out, HS1.out], by rw [HZ1.out, HS2.out], below_drewN HBR.out _⟩
              case measure => simp [intOf]; omega
            · obtain rfl : ps.length = k := by omega
              have hw1 := HW1.out
              have hw3 := HW3.out
              rw [List.take_length]
              generalize stLo b ps = A0 at *
              generalize stHi b ps = A1 at *
              have m0 : decide (A0 ≤ y.lo) = true := decide_eq_true hw1
              have m1 : decide (y.lo ≤ y.hi) = true := decide_eq_true hw2
              have m2 : decide (y.hi ≤ A1) = true := decide_eq_true hw3
              clear hw1 hw2 hw3 bd1 bd2 bd3 bd4
              go_wp2_with fail
              go_ret
              exact ⟨rfl, HB40.out⟩
end Go.Proofs.Ytlakcghdehdeiaa

namespace Go.Proofs.Ytlakcghdehdeiaa
open Go Go.Proofs Go.RowKit Go.ChangeShapes Go.WideShapes Go.ChangeAt Go.Joins Go.Deep

set_option maxRecDepth 100000 in
theorem weighSettles_contract (H : Type) (enc : TypeId × Value → H) (W : World) (base : Nat) (args : Array Value) (ds gs : List (DataW H)) (before : List MemPlace)
    (hval : ∀ (j : Nat) t v, Try.f6.params[j]? = some t → args[j]? = some v → Value.okWide Try.prog W .any base t v)
    (hW : DataW.Whole enc Try.prog Try.f6.params.toList Rows.weighSettlesSpec.vars false W args.toList ds gs before) :
    Calls Try.prog 6 args W fun e W' => ∃ v, e = .returned v ∧ Rows.weighSettlesSpec.post enc Try.prog Try.f6 false true false false W args v W' := by
  have hW' := hW
  obtain ⟨p, q, hA0, hV, rfl, hfz, hnd⟩ := hW
  have hA : DataW.TrodAll enc Try.prog W 0 (fun _ => true) true Try.f6.params.toList args.toList ds p := hA0
  rw [Try.params6] at hA hval
  obtain ⟨v0, v1, d0, d1, p0, p1, rfl, rfl, rfl, h0, h1⟩ := trodAll_two hA
  obtain ⟨a0, n0, c0, d0, m0, e0, rfl, hn0, hm0, hl0⟩ := bk_open (hval 0 38 v0 rfl rfl) h0
  obtain ⟨a1, n1, c1, rfl⟩ := okWide_slice Try.underlying22 (hval 1 22 v1 rfl rfl)
  obtain ⟨hn1, hl1⟩ := sl_ints h1
  have key : Calls Try.prog 6 #[.agg #[.slice a0 n0 c0, .slice d0 m0 e0], .slice a1 n1 c1] W (Ret (.bool true) W) := by
    by_cases hbig : 6 < n0 ∨ 8 < m0
    · exact settles6_dark _ _ a1 n1 c1 W (dark_big a0 d0 n0 c0 m0 e0 W hn0 hm0 hbig) ⟨⟨_, _, _, rfl⟩, _, _, _, rfl⟩
    · obtain ⟨b, hb1, hb2, hb, _⟩ := hl0 (by omega) (by omega)
      by_cases hlt : lightB b = true
      · obtain ⟨_, l, hll, hs, _⟩ := sl_ints_long h1
        have h6 : b.st.length ≤ 6 := by have : b.st.length ≤ 6 ∧ b.ts.length ≤ 8 ∧ ckBook b = 0 := by simpa [lightB] using hlt
                                        exact this.1
        by_cases hn : ckNums l b.st.length = 0
        · have hsh : l.length ≤ b.st.length := Nat.le_of_not_lt fun h => ckNums_long h hn
          exact settles6 _ _ _ W b l hb (hs.short (by omega)) hlt hn
        · exact settles6_out _ _ _ W b l hb hs hlt hn
      · exact settles6_dark _ _ a1 n1 c1 W (dark_of hb (eq_false_of_ne_true hlt)) ⟨⟨_, _, _, rfl⟩, _, _, _, rfl⟩
  refine key.mono fun e W' ⟨he, hb⟩ => ⟨_, he, ?_⟩
  exact law_post rfl rfl rfl (by rw [Try.params6]; decide) hW' rfl rfl rfl hb

set_option maxRecDepth 100000 in
theorem weighSettles_lifted (os : Os) (started : os.Started) (H : Type) (enc : TypeId × Value → H) :
    ReturnsInHanded {} Try.checked os 6 .any (Rows.weighSettlesSpec.pre6 enc Try.prog Try.f6 Rows.weighSettlesRow.domain false) (Rows.weighSettlesSpec.post enc Try.prog Try.f6 false true false false) := by
  refine returnsInHanded_of_change (C := Try.checked) Try.own started (by kernel_rfl) Try.func6
    (ChangeSpec.witness6 (enc := enc) (C := Try.checked) false ⟨#[], #[.agg #[.slice none 0 0, .slice none 0 0], .slice none 0 0], []⟩ 8 (by kernel_rfl) (by kernel_rfl) (by kernel_rfl) (by kernel_rfl)) ?_
  intro W base args ds gs before hval hW _ _
  exact weighSettles_contract H enc W base args ds gs before hval hW

theorem weighSettles_holds : Rows.WeighSettlesSaid :=
  OpenClaim.holds_of_wide 6 Try.f6 rfl rfl rfl rfl rfl rfl rfl ⟨rfl, rfl, rfl, rfl, rfl⟩ rfl rfl rfl rfl rfl (by kernel_rfl) Try.func6 (by kernel_rfl)
    (of_decide_eq_true (by kernel_rfl)) (by unfold Func.isWrapper; first | (rw [if_pos (by decide +kernel)]; kernel_rfl) | (rw [if_neg (by decide +kernel)]; exact ⟨rfl, rfl⟩))
    (fun os started H enc _ => weighSettles_lifted os started H enc)
end Go.Proofs.Ytlakcghdehdeiaa
