/- The law WeighExhausts returns true for every input, and leaves its arguments as they were. No conditions. -/
import Derived.Test.YtlakcghdehdeiaaLib19
import Derived.Test.YtlakcghdehdeiaaLib14
import Derived.Test.YtlakcghdehdeiaaLib15
import Derived.Test.YtlakcghdehdeiaaLib20
import Derived.Test.YtlakcghdehdeiaaLib16
import Derived.Test.YtlakcghdehdeiaaLib11
import Derived.Test.YtlakcghdehdeiaaLib17
import Derived.Laws.AppendOwnNone
import Derived.RegionTactic
import Derived.BigRegion
set_option linter.unusedVariables false
set_option linter.unusedSimpArgs false

/- The law of Tighten, walked. -/
namespace Go.Proofs.Ytlakcghdehdeiaa
open Go Go.Proofs Go.RowKit

/-- A book that the laws leave aside. -/
def AsideB (w : World) (v : Value) : Prop := ∀ w1, Below w.heap.size w w1 → Calls Try.prog 23 #[v] w1 (Ret (.bool true) w1)
theorem asideB_big (a1 a2 : Option Addr) (n1 c1 n2 c2 : Nat) (w : World) (h1 : n1 ≤ 9223372036854775807) (h2 : n2 ≤ 9223372036854775807) (hb : 40 < n1 ∨ 132 < n2) : AsideB w (.agg #[.slice a1 n1 c1, .slice a2 n2 c2]) :=
  fun w1 _ => heavy23_big a1 a2 n1 c1 n2 c2 w1 h1 h2 hb
theorem asideB_of {v1 v2 : Value} {b : Bk} {w : World} (hv : BkR w w.heap.size v1 v2 b) (h : heavyB b = true) : AsideB w (.agg #[v1, v2]) := fun w1 hb => by
  have := heavy23 v1 v2 b w1 (hv.later hb)
  rwa [h] at this

set_option maxRecDepth 100000 in
set_option maxHeartbeats 1000000 in
theorem tightens8_aside (v1 v2 : Value) (w : World) (h : AsideB w (.agg #[v1, v2])) (hs : (∃ a n c, v1 = .slice a n c) ∧ ∃ a n c, v2 = .slice a n c) :
    Calls Try.prog 8 #[.agg #[v1, v2]] w (Ret (.bool true) w) := by
  obtain ⟨⟨a1, n1, c1, rfl⟩, a2, n2, c2, rfl⟩ := hs
  have H := Lib.hid h
  clear h
  go_enter Try.func8, Try.ntmps8
  go_wp2_with fail
  refine (awake16 _).mono ?_
  rintro e w1 ⟨rfl, hb1⟩
  have HX := Lib.hid ((Box.new w #[.slice a1 n1 c1, .slice a2 n2 c2] 38).later hb1)
  have HB1 := Lib.hid (((Below.refl w.heap.size w).alloc (Nat.le_refl _) (.cells #[.slice a1 n1 c1, .slice a2 n2 c2] 38)).trans (hb1.mono (by simp)))
  clear hb1
  obtain ⟨x0, x1, xf, xz⟩ := HX.out.v2
  go_wp2_with fail
  refine (H.out _ HB1.out).mono ?_
  rintro e w2 ⟨rfl, hb2⟩
  have HB2 := Lib.hid (HB1.out.trans (hb2.mono HB1.out.size))
  clear hb2 x0 x1 xf xz
  go_wp2_with fail
  refine (awake16 _).mono ?_
  rintro e w3 ⟨rfl, hb3⟩
  have HB3 := Lib.hid (HB2.out.trans (hb3.mono HB2.out.size))
  clear hb3
  go_wp2_with fail
  go_ret
  exact ⟨rfl, HB3.out⟩

theorem ranges_ok (v r : Value) (l lr : List Rg) (e n : Int) (w : World) (hl : Sl Rg.enc 2 w w.heap.size v l) (hr : Sl Rg.enc 2 w w.heap.size r lr) (h : rangesP l e n lr) : Calls Try.prog 21 #[v, .int .i64 e, .int .i64 n, r] w (Ret (.bool true) w) := by
  have := ranges21 v r l lr e n w hl hr
  rwa [decide_eq_true h] at this

set_option maxRecDepth 100000 in
set_option maxHeartbeats 1000000 in
theorem tightens8 (v1 v2 : Value) (w : World) (b : Bk) (hv : BkR w w.heap.size v1 v2 b) (hhv : heavyB b = false) :
    Calls Try.prog 8 #[.agg #[v1, v2]] w (Ret (.bool true) w) := by
  obtain ⟨R, hR⟩ : ∃ R : Bool, R = true ↔ Con b := by
    classical
    exact ⟨decide (Con b), by simp⟩
  have H := Lib.hid (fun (w1 : World) (hb : Below w.heap.size w w1) => heavy23 v1 v2 b w1 (hv.later hb))
  have C24 := Lib.hid (fun (w1 : World) (hb : Below w.heap.size w w1) => ckBook24 v1 v2 b w1 (hv.later hb))
  have C37 := Lib.hid (fun (w1 : World) (hb : Below w.heap.size w w1) => isCon37 w1 v1 v2 b (hv.later hb))
  have C35 := Lib.hid (fun (w1 : World) (hb : Below w.heap.size w w1) => tighten35 w1 v1 v2 b (hv.later hb))
  have C31 := Lib.hid (fun (w1 : World) (hb : Below w.heap.size w w1) (hok : OkBk b) => isCon31 w1 v1 v2 b hok (hv.later hb) R hR)
  have C38 := Lib.hid (fun (w1 : World) (hb : Below w.heap.size w w1) (hok : OkBk b) (hc : Con b) => tighten38 w1 v1 v2 b hok (hv.later hb) hc)
  rw [hhv] at H
  have HR := Lib.hid hR
  clear hR hhv
  obtain ⟨⟨a1, n1, hv1, hl1, hA1⟩, ⟨a2, n2, hv2, hl2, hA2⟩, hids⟩ := hv
  subst hv1 hv2
  clear hA1 hA2 hids
  obtain ⟨CK, hCK⟩ : ∃ CK, ckBook b = CK := ⟨_, rfl⟩
  rw [hCK] at C24
  have ECK := Lib.hid hCK
  clear hCK
  go_enter Try.func8, Try.ntmps8
  go_wp2_with fail
  refine (awake16 _).mono ?_
  rintro e w1 ⟨rfl, hb1⟩
  have HX1 := Lib.hid ((Box.new w #[.slice a1 b.st.length n1, .slice a2 b.ts.length n2] 38).later hb1)
  have HB1 := Lib.hid (((Below.refl w.heap.size w).alloc (Nat.le_refl _) (.cells #[.slice a1 b.st.length n1, .slice a2 b.ts.length n2] 38)).trans (hb1.mono (by simp)))
  clear hb1
  obtain ⟨x0, x1, xf, xz⟩ := HX1.out.v2
  go_wp2_with fail
  refine (H.out _ HB1.out).mono ?_
  rintro e w2 ⟨rfl, hb2⟩
  have HX2 := Lib.hid (HX1.out.later hb2)
  have HB2 := Lib.hid (HB1.out.trans (hb2.mono HB1.out.size))
  clear hb2 x0 x1 xf xz HX1 HB1
  obtain ⟨x0, x1, xf, xz⟩ := HX2.out.v2
  go_wp2_with fail
  refine (C37.out _ HB2.out).mono ?_
  rintro e w3 ⟨ok, rfl, hb3, hok⟩
  have HX3 := Lib.hid (HX2.out.later hb3)
  have HB3 := Lib.hid (HB2.out.trans (hb3.mono HB2.out.size))
  rw [ECK.out] at hok ⊢
  have HOK := Lib.hid hok
  clear hok hb3 x0 x1 xf xz HX2 HB2
  obtain ⟨x0, x1, xf, xz⟩ := HX3.out.v2
  go_wp2_with fail
  refine (C35.out _ HB3.out).mono ?_
  rintro e w4 ⟨hb4, hor⟩
  rw [ECK.out] at hor
  have HOR := Lib.hid hor
  have HX4 := Lib.hid (HX3.out.later hb4)
  have HB4 := Lib.hid (HB3.out.trans (hb4.mono HB3.out.size))
  clear hor hb4 x0 x1 xf xz HX3 HB3
  obtain ⟨x0, x1, xf, xz⟩ := HX4.out.v2
  rcases HOR.out with ⟨h0, rfl⟩ | ⟨h0, hc, rfl⟩ | ⟨h0, hc, vt, rs, rfl, hsl, hlen, htt⟩
  · have hok : ok = false := by
      cases ok with
      | false => rfl
      | true => exact absurd (HOK.out.1 rfl).1 h0
    subst hok
    go_wp2_with fail
    refine (C24.out _ HB4.out).mono ?_
    rintro e w5 ⟨rfl, hb5⟩
    have HB5 := Lib.hid (HB4.out.trans (hb5.mono HB4.out.size))
    clear hb5 x0 x1 xf xz HX4 HB4
    have k0 : (CK == 0) = false := beq_eq_false_iff_ne.2 h0
    have k1 : (CK == CK) = true := beq_self_eq_true _
    go_wp2_with fail
    refine (ranges_ok _ _ [] [] CK CK w5 (Sl.nil _ _ _ _ _ _) (Sl.nil _ _ _ _ _ _) (by unfold rangesP; rw [if_pos h0]; exact ⟨rfl, rfl⟩)).mono ?_
    rintro e w6 ⟨rfl, hb6⟩
    have HB6 := Lib.hid (HB5.out.trans (hb6.mono HB5.out.size))
    clear hb6
    go_wp2_with fail
    go_ret
    exact ⟨rfl, HB6.out⟩
  · subst h0
    have hok : ok = R := by
      have h1 := HOK.out
      have h2 := HR.out
      cases ok <;> cases R <;> simp_all
    subst hok
    have hrf : ok = false := by
      cases ok with
      | false => rfl
      | true => exact absurd (HR.out.1 rfl) hc
    subst hrf
    go_wp2_with fail
    refine (C24.out _ HB4.out).mono ?_
    rintro e w5 ⟨rfl, hb5⟩
    have HX5 := Lib.hid (HX4.out.later hb5)
    have HB5 := Lib.hid (HB4.out.trans (hb5.mono HB4.out.size))
    clear hb5 x0 x1 xf xz HX4 HB4
    obtain ⟨x0, x1, xf, xz⟩ := HX5.out.v2
    go_wp2_with fail
    refine (C31.out _ HB5.out (okBk_of ECK.out)).mono ?_
    rintro e w6 ⟨rfl, hb6⟩
    have HB6 := Lib.hid (HB5.out.trans (hb6.mono HB5.out.size))
    clear hb6 x0 x1 xf xz HX5 HB5
    go_wp2_with fail
    refine (ranges_ok _ _ [] [] 15 15 w6 (Sl.nil _ _ _ _ _ _) (Sl.nil _ _ _ _ _ _) (by unfold rangesP; simp)).mono ?_
    rintro e w7 ⟨rfl, hb7⟩
    have HB7 := Lib.hid (HB6.out.trans (hb7.mono HB6.out.size))
    clear hb7
    go_wp2_with fail
    go_ret
    exact ⟨rfl, HB7.out⟩
  · subst h0
    have hok : ok = R := by
      have h1 := HOK.out
      have h2 := HR.out
      cases ok <;> cases R <;> simp_all
    subst hok
    have hrf : ok = true := HR.out.2 hc
    subst hrf
    have HSL4 := Lib.hid hsl
    have HTT := Lib.hid htt
    clear hsl htt
    go_wp2_with fail
    refine (C24.out _ HB4.out).mono ?_
    rintro e w5 ⟨rfl, hb5⟩
    have HX5 := Lib.hid (HX4.out.later hb5)
    have HB5 := Lib.hid (HB4.out.trans (hb5.mono HB4.out.size))
    have HSL5 := Lib.hid (HSL4.out.later hb5)
    clear hb5 x0 x1 xf xz HX4 HB4 HSL4
    obtain ⟨x0, x1, xf, xz⟩ := HX5.out.v2
    go_wp2_with fail
    refine (C31.out _ HB5.out (okBk_of ECK.out)).mono ?_
    rintro e w6 ⟨rfl, hb6⟩
    have HX6 := Lib.hid (HX5.out.later hb6)
    have HB6 := Lib.hid (HB5.out.trans (hb6.mono HB5.out.size))
    have HSL6 := Lib.hid (HSL5.out.later hb6)
    clear hb6 x0 x1 xf xz HX5 HB5 HSL5
    obtain ⟨x0, x1, xf, xz⟩ := HX6.out.v2
    go_wp2_with fail
    refine (C38.out _ HB6.out (okBk_of ECK.out) hc).mono ?_
    rintro e w7 ⟨vt2, rs2, rfl, hsl2, hlen2, htt2, hb7⟩
    have hrr : rs2 = rs := TightS.unique (tightS_of (okBk_of ECK.out) hlen HTT.out) (tightS_of (okBk_of ECK.out) hlen2 htt2)
    subst hrr
    have HB7 := Lib.hid (HB6.out.trans (hb7.mono HB6.out.size))
    have HSL7 := Lib.hid (HSL6.out.later hb7)
    have HSL2 := Lib.hid hsl2
    clear hb7 hsl2 htt2 x0 x1 xf xz HX6 HB6 HSL6
    go_wp2_with fail
    refine (ranges_ok _ _ rs2 rs2 0 0 w7 HSL7.out HSL2.out (by unfold rangesP; simp)).mono ?_
    rintro e w8 ⟨rfl, hb8⟩
    have HB8 := Lib.hid (HB7.out.trans (hb8.mono HB7.out.size))
    clear hb8
    go_wp2_with fail
    go_ret
    exact ⟨rfl, HB8.out⟩
end Go.Proofs.Ytlakcghdehdeiaa

/- The law of Change, walked. -/
namespace Go.Proofs.Ytlakcghdehdeiaa
open Go Go.Proofs Go.RowKit

theorem Together.unique {n : Nat} {l : List Ac} {is : List Nat} {lo hi lo' hi' : Int} (h : Together n l is lo hi) (h' : Together n l is lo' hi') : lo = lo' ∧ hi = hi' ∧ lo ≤ hi := by
  obtain ⟨⟨a, a1, a2, a3⟩, ⟨c, c1, c2, c3⟩, hb⟩ := h
  obtain ⟨⟨a', a1', a2', a3'⟩, ⟨c', c1', c2', c3'⟩, hb'⟩ := h'
  have h1 := hb a' a1' a2'
  have h2 := hb c' c1' c2'
  have h3 := hb' a a1 a2
  have h4 := hb' c c1 c2
  have h5 := hb a a1 a2
  omega
theorem alike_ok (x y : Rg) (e bad : Int) (w : World) (h : alikeB x e bad y = true) : Calls Try.prog 33 #[.agg #[.int .i64 x.lo, .int .i64 x.hi], .int .i64 e, .int .i64 bad, .agg #[.int .i64 y.lo, .int .i64 y.hi]] w (Ret (.bool true) w) := by
  have := alike33 x y e bad w
  rwa [h] at this
/-- What Change returns, the errors of its arguments, whether there is an assignment. -/
def ChOut (b : Bk) (ps : List Int) (x : Rg) (E : Int) : Prop :=
  (chE b ps ≠ 0 ∧ x = z ∧ E = chE b ps) ∨ (chE b ps = 0 ∧ ¬ Con b ∧ x = z ∧ E = 15) ∨ (chE b ps = 0 ∧ Con b ∧ ∃ lo hi, Together b.st.length (arcsOf b) (idx b.ts.length ps) lo hi ∧ ((ckRange ⟨lo, hi⟩ ≠ 0 ∧ x = z ∧ E = 4) ∨ (ckRange ⟨lo, hi⟩ = 0 ∧ x = ⟨lo, hi⟩ ∧ E = 0)))
theorem change_p (w : World) (v1 v2 u : Value) (b : Bk) (ps : List Int) (hv : BkR w w.heap.size v1 v2 b) (hu : Sl encI 1 w w.heap.size u ps) :
    Calls Try.prog 29 #[.agg #[v1, v2], u] w (fun e w' => ∃ x E, e = .returned (.tuple #[.agg #[.int .i64 x.lo, .int .i64 x.hi], .int .i64 E]) ∧ ChOut b ps x E ∧ Below w.heap.size w w') := by
  refine (change29 w v1 v2 u b ps hv hu).mono ?_
  rintro e w' ⟨hb, ⟨h1, rfl⟩ | ⟨h1, h2, rfl⟩ | ⟨h1, h2, lo, hi, h3, ⟨h4, rfl⟩ | ⟨h4, rfl⟩⟩⟩
  · exact ⟨z, _, rfl, .inl ⟨h1, rfl, rfl⟩, hb⟩
  · exact ⟨z, _, rfl, .inr (.inl ⟨h1, h2, rfl, rfl⟩), hb⟩
  · exact ⟨z, _, rfl, .inr (.inr ⟨h1, h2, lo, hi, h3, .inl ⟨h4, rfl, rfl⟩⟩), hb⟩
  · exact ⟨⟨lo, hi⟩, _, rfl, .inr (.inr ⟨h1, h2, lo, hi, h3, .inr ⟨h4, rfl, rfl⟩⟩), hb⟩

set_option maxRecDepth 100000 in
set_option maxHeartbeats 1000000 in
theorem changes5_aside (v1 v2 : Value) (a : Option Addr) (n c : Nat) (w : World) (h : AsideB w (.agg #[v1, v2])) (hs : (∃ a n c, v1 = .slice a n c) ∧ ∃ a n c, v2 = .slice a n c) :
    Calls Try.prog 5 #[.agg #[v1, v2], .slice a n c] w (Ret (.bool true) w) := by
  obtain ⟨⟨a1, n1, c1, rfl⟩, a2, n2, c2, rfl⟩ := hs
  have H := Lib.hid h
  clear h
  go_enter Try.func5, Try.ntmps5
  go_wp2_with fail
  refine (awake16 _).mono ?_
  rintro e w1 ⟨rfl, hb1⟩
  have HX := Lib.hid ((Box.new w #[.slice a1 n1 c1, .slice a2 n2 c2] 38).later hb1)
  have HB1 := Lib.hid (((Below.refl w.heap.size w).alloc (Nat.le_refl _) (.cells #[.slice a1 n1 c1, .slice a2 n2 c2] 38)).trans (hb1.mono (by simp)))
  clear hb1
  obtain ⟨x0, x1, xf, xz⟩ := HX.out.v2
  go_wp2_with fail
  refine (H.out _ HB1.out).mono ?_
  rintro e w2 ⟨rfl, hb2⟩
  have HB2 := Lib.hid (HB1.out.trans (hb2.mono HB1.out.size))
  clear hb2 x0 x1 xf xz
  go_wp2_with fail
  refine (awake16 _).mono ?_
  rintro e w3 ⟨rfl, hb3⟩
  have HB3 := Lib.hid (HB2.out.trans (hb3.mono HB2.out.size))
  clear hb3
  go_wp2_with fail
  go_ret
  exact ⟨rfl, HB3.out⟩

set_option maxRecDepth 100000 in
set_option maxHeartbeats 1000000 in
theorem changes5_many (v1 v2 : Value) (a : Option Addr) (n c : Nat) (w : World) (b : Bk) (hv : BkR w w.heap.size v1 v2 b) (hhv : heavyB b = false) (hn : n ≤ 9223372036854775807) (hbig : 20 < n) :
    Calls Try.prog 5 #[.agg #[v1, v2], .slice a n c] w (Ret (.bool true) w) := by
  have H := Lib.hid (fun (w1 : World) (hb : Below w.heap.size w w1) => heavy23 v1 v2 b w1 (hv.later hb))
  rw [hhv] at H
  obtain ⟨⟨a1, n1, hv1, hl1, hA1⟩, ⟨a2, n2, hv2, hl2, hA2⟩, hids⟩ := hv
  subst hv1 hv2
  clear hA1 hA2 hids hhv
  have hb20 : decide ((20 : Int) < (n : Int)) = true := decide_eq_true (by omega)
  go_enter Try.func5, Try.ntmps5
  go_wp2_with fail
  refine (awake16 _).mono ?_
  rintro e w1 ⟨rfl, hb1⟩
  have HX := Lib.hid ((Box.new w #[.slice a1 b.st.length n1, .slice a2 b.ts.length n2] 38).later hb1)
  have HB1 := Lib.hid (((Below.refl w.heap.size w).alloc (Nat.le_refl _) (.cells #[.slice a1 b.st.length n1, .slice a2 b.ts.length n2] 38)).trans (hb1.mono (by simp)))
  clear hb1
  obtain ⟨x0, x1, xf, xz⟩ := HX.out.v2
  go_wp2_with fail
  refine (H.out _ HB1.out).mono ?_
  rintro e w2 ⟨rfl, hb2⟩
  have HB2 := Lib.hid (HB1.out.trans (hb2.mono HB1.out.size))
  clear hb2 x0 x1 xf xz
  go_wp2_with fail
  refine (awake16 _).mono ?_
  rintro e w3 ⟨rfl, hb3⟩
  have HB3 := Lib.hid (HB2.out.trans (hb3.mono HB2.out.size))
  clear hb3
  go_wp2_with fail
  go_ret
  exact ⟨rfl, HB3.out⟩

set_option maxRecDepth 100000 in
set_option maxHeartbeats 1000000 in
theorem changes5 (v1 v2 u : Value) (w : World) (b : Bk) (ps : List Int) (hv : BkR w w.heap.size v1 v2 b) (hu : Sl encI 1 w w.heap.size u ps) (hhv : heavyB b = false) (hpl : ps.length ≤ 20) :
    Calls Try.prog 5 #[.agg #[v1, v2], u] w (Ret (.bool true) w) := by
  obtain ⟨R, hR⟩ : ∃ R : Bool, R = true ↔ Con b := by
    classical
    exact ⟨decide (Con b), by simp⟩
  have H := Lib.hid (fun (w1 : World) (hb : Below w.heap.size w w1) => heavy23 v1 v2 b w1 (hv.later hb))
  have C24 := Lib.hid (fun (w1 : World) (hb : Below w.heap.size w w1) => ckBook24 v1 v2 b w1 (hv.later hb))
  have C29 := Lib.hid (fun (w1 : World) (hb : Below w.heap.size w w1) => change_p w1 v1 v2 u b ps (hv.later hb) (hu.later hb))
  have C30 := Lib.hid (fun (w1 : World) (hb : Below w.heap.size w w1) => ckNums30 u ps b.st.length w1 (hu.later hb))
  have C31 := Lib.hid (fun (w1 : World) (hb : Below w.heap.size w w1) (hok : OkBk b) => isCon31 w1 v1 v2 b hok (hv.later hb) R hR)
  have C32 := Lib.hid (fun (w1 : World) (hb : Below w.heap.size w w1) (hok : OkBk b) (hn : ckNums ps b.st.length = 0) (hc : Con b) => change32 w1 v1 v2 u b ps hok (hv.later hb) (hu.later hb) hn hc)
  rw [hhv] at H
  have HR := Lib.hid hR
  clear hR hhv
  obtain ⟨⟨a1, n1, hv1, hl1, hA1⟩, ⟨a2, n2, hv2, hl2, hA2⟩, hids⟩ := hv
  subst hv1 hv2
  obtain ⟨a3, n3, hv3, hl3, hA3⟩ := hu
  subst hv3
  clear hA1 hA2 hA3 hids
  obtain ⟨CK, hCK⟩ : ∃ CK, ckBook b = CK := ⟨_, rfl⟩
  obtain ⟨CN, hCN⟩ : ∃ CN, ckNums ps b.st.length = CN := ⟨_, rfl⟩
  have hCE : chE b ps = firstNZ [CK, CN] := by unfold chE; rw [hCK, hCN]
  obtain ⟨CE, hCE2⟩ : ∃ CE, firstNZ [CK, CN] = CE := ⟨_, rfl⟩
  rw [hCE2] at hCE
  rw [hCK] at C24
  rw [hCN] at C30
  have ECK := Lib.hid hCK
  have ECN := Lib.hid hCN
  have ECE := Lib.hid hCE
  have ECE2 := Lib.hid hCE2
  clear hCK hCN hCE hCE2
  have hb20 : decide ((20 : Int) < (ps.length : Int)) = false := decide_eq_false (by omega)
  go_enter Try.func5, Try.ntmps5
  go_wp2_with fail
  refine (awake16 _).mono ?_
  rintro e w1 ⟨rfl, hb1⟩
  have HX1 := Lib.hid ((Box.new w #[.slice a1 b.st.length n1, .slice a2 b.ts.length n2] 38).later hb1)
  have HB1 := Lib.hid (((Below.refl w.heap.size w).alloc (Nat.le_refl _) (.cells #[.slice a1 b.st.length n1, .slice a2 b.ts.length n2] 38)).trans (hb1.mono (by simp)))
  clear hb1
  obtain ⟨x0, x1, xf, xz⟩ := HX1.out.v2
  go_wp2_with fail
  refine (H.out _ HB1.out).mono ?_
  rintro e w2 ⟨rfl, hb2⟩
  have HX2 := Lib.hid (HX1.out.later hb2)
  have HB2 := Lib.hid (HB1.out.trans (hb2.mono HB1.out.size))
  clear hb2 x0 x1 xf xz HX1 HB1
  obtain ⟨x0, x1, xf, xz⟩ := HX2.out.v2
  go_wp2_with fail
  refine (C29.out _ HB2.out).mono ?_
  rintro e w3 ⟨⟨xl, xh⟩, E, rfl, hco, hb3⟩
  unfold ChOut at hco
  rw [ECE.out] at hco
  have HCO := Lib.hid hco
  have HX3 := Lib.hid (HX2.out.later hb3)
  have HB3 := Lib.hid (HB2.out.trans (hb3.mono HB2.out.size))
  clear hco hb3 x0 x1 xf xz HX2 HB2
  obtain ⟨x0, x1, xf, xz⟩ := HX3.out.v2
  go_wp2_with fail
  have hba : Below w3.heap.size w3 (w3.alloc (.cells #[.int .i64 xl, .int .i64 xh] 24)) := (Below.refl _ _).alloc (Nat.le_refl _) _
  have HC4 := Lib.hid (Box.new w3 #[.int .i64 xl, .int .i64 xh] 24)
  have HX4 := Lib.hid (HX3.out.later hba)
  have HB4 := Lib.hid (HB3.out.trans (hba.mono HB3.out.size))
  generalize w3.alloc (.cells #[.int .i64 xl, .int .i64 xh] 24) = w4 at *
  generalize w3.heap.size = P at *
  clear hba x0 x1 xf xz HX3 HB3
  refine (C24.out _ HB4.out).mono ?_
  rintro e w5 ⟨rfl, hb5⟩
  have HX5 := Lib.hid (HX4.out.later hb5)
  have HC5 := Lib.hid (HC4.out.later hb5)
  have HB5 := Lib.hid (HB4.out.trans (hb5.mono HB4.out.size))
  clear hb5 HX4 HB4 HC4
  obtain ⟨x0, x1, xf, xz⟩ := HX5.out.v2
  go_wp2_with fail
  refine (C30.out _ HB5.out).mono ?_
  rintro e w6 ⟨rfl, hb6⟩
  have HX6 := Lib.hid (HX5.out.later hb6)
  have HC6 := Lib.hid (HC5.out.later hb6)
  have HB6 := Lib.hid (HB5.out.trans (hb6.mono HB5.out.size))
  clear hb6 x0 x1 xf xz HX5 HB5 HC5
  go_wp2_with fail
  refine (first18 _ [CK, CN] _ (Sl.lit encI_len [CK, CN] w6 #[.int .i64 CK, .int .i64 CN] _ 2 rfl rfl (by simp))).mono ?_
  rintro e w7 ⟨rfl, rfl⟩
  rw [ECE2.out]
  have hba : Below w6.heap.size w6 (w6.alloc (.cells #[.int .i64 CK, .int .i64 CN] 3)) := (Below.refl _ _).alloc (Nat.le_refl _) _
  have HX7 := Lib.hid (HX6.out.later hba)
  have HC7 := Lib.hid (HC6.out.later hba)
  have HB7 := Lib.hid (HB6.out.trans (hba.mono HB6.out.size))
  generalize w6.alloc (.cells #[.int .i64 CK, .int .i64 CN] 3) = w7 at *
  clear hba HX6 HC6 HB6
  obtain ⟨x0, x1, xf, xz⟩ := HX7.out.v2
  obtain ⟨c0, c1, cf, cz⟩ := HC7.out.v2
  have hba : Below w7.heap.size w7 (w7.alloc (.cells #[.int .i64 0, .int .i64 0] 24)) := (Below.refl _ _).alloc (Nat.le_refl _) _
  have HQ8 := Lib.hid (Box.new w7 #[.int .i64 0, .int .i64 0] 24)
  have HX8 := Lib.hid (HX7.out.later hba)
  have HC8 := Lib.hid (HC7.out.later hba)
  have HB8 := Lib.hid (HB7.out.trans (hba.mono HB7.out.size))
  rcases HCO.out with ⟨h0, h1, h2⟩ | ⟨h0, hc, h1, h2⟩ | ⟨h0, hc, lo, hi, htg, hor⟩
  · cases h1
    subst h2
    have k0 : (E == 0) = false := beq_eq_false_iff_ne.2 h0
    go_wp2_with fail
    refine (alike_ok z z E E _ (by unfold alikeB; simp [h0])).mono ?_
    rintro e w9 ⟨rfl, hb⟩
    have HBZ := Lib.hid (HB8.out.trans (hb.mono HB8.out.size))
    clear hb
    go_wp2_with fail
    go_ret
    exact ⟨rfl, HBZ.out⟩
  · cases h1
    subst h0 h2
    have hrf : R = false := by
      cases R with
      | false => rfl
      | true => exact absurd (HR.out.1 rfl) hc
    subst hrf
    have HCK0 := Lib.hid (firstNZ_2.1 ECE2.out)
    go_wp2_with fail
    refine (C31.out _ HB8.out (okBk_of (by rw [ECK.out]; exact HCK0.out.1))).mono ?_
    rintro e w9 ⟨rfl, hb9⟩
    have HC9 := Lib.hid (HC8.out.later hb9)
    have HQ9 := Lib.hid (HQ8.out.later hb9)
    have HB9 := Lib.hid (HB8.out.trans (hb9.mono HB8.out.size))
    clear hb9 x0 x1 xf xz c0 c1 cf cz
    obtain ⟨c0, c1, cf, cz⟩ := HC9.out.v2
    obtain ⟨q0, q1, qf, qz⟩ := HQ9.out.v2
    go_wp2_with fail
    refine (alike_ok z z 15 15 _ (by unfold alikeB; simp)).mono ?_
    rintro e w10 ⟨rfl, hb⟩
    have HBZ := Lib.hid (HB9.out.trans (hb.mono HB9.out.size))
    clear hb
    go_wp2_with fail
    go_ret
    exact ⟨rfl, HBZ.out⟩
  · subst h0
    have hrt : R = true := HR.out.2 hc
    subst hrt
    have HCK0 := Lib.hid (firstNZ_2.1 ECE2.out)
    have HTG := Lib.hid htg
    have HOR := Lib.hid hor
    clear htg hor
    go_wp2_with fail
    refine (C31.out _ HB8.out (okBk_of (by rw [ECK.out]; exact HCK0.out.1))).mono ?_
    rintro e w9 ⟨rfl, hb9⟩
    have HX9 := Lib.hid (HX8.out.later hb9)
    have HC9 := Lib.hid (HC8.out.later hb9)
    have HQ9 := Lib.hid (HQ8.out.later hb9)
    have HB9 := Lib.hid (HB8.out.trans (hb9.mono HB8.out.size))
    clear hb9 x0 x1 xf xz c0 c1 cf cz
    obtain ⟨x0, x1, xf, xz⟩ := HX9.out.v2
    go_wp2_with fail
    refine (C32.out _ HB9.out (okBk_of (by rw [ECK.out]; exact HCK0.out.1)) (by rw [ECN.out]; exact HCK0.out.2) hc).mono ?_
    rintro e w10 ⟨lo', hi', rfl, htg', hb10⟩
    obtain ⟨hlo, hhi, hle⟩ := Together.unique HTG.out htg'
    subst hlo hhi
    have hc10 := HC9.out.later hb10
    have hq10 := HQ9.out.later hb10
    have hb11 := HB9.out.trans (hb10.mono HB9.out.size)
    clear htg' hb10 x0 x1 xf xz
    have hpq : P ≠ w7.heap.size := by have := HC7.out.lt; omega
    obtain ⟨q0, q1, qf, qz⟩ := hq10.v2
    have HQ11 := Lib.hid ((hq10.set 0 (.int .i64 lo)).set 1 (.int .i64 hi))
    have HC11 := Lib.hid ((hc10.other (a := ⟨w7.heap.size, 0, none⟩) (.int .i64 lo) (Ne.symm hpq)).other (a := ⟨w7.heap.size, 1, none⟩) (.int .i64 hi) (Ne.symm hpq))
    have HB11 := Lib.hid ((hb11.setCell (p := ⟨w7.heap.size, 0, none⟩) (by have := HB7.out.size; dsimp only; omega) (.int .i64 lo)).setCell (p := ⟨w7.heap.size, 1, none⟩) (by have := HB7.out.size; dsimp only; omega) (.int .i64 hi))
    clear hc10 hq10 hb11
    simp only [List.set_cons_zero, List.set_cons_succ] at HQ11
    obtain ⟨q0', q1', qf', qz'⟩ := HQ11.out.v2
    obtain ⟨c0, c1, cf, cz⟩ := HC11.out.v2
    by_cases hl1 : lo < -999999999
    · have b1 : decide (lo < -999999999) = true := decide_eq_true hl1
      obtain ⟨_, h1, h2⟩ | ⟨h, _⟩ := HOR.out
      · cases h1
        subst h2
        go_wp2_with fail
        refine (when27 true 4 _).mono ?_
        rintro e w12 ⟨rfl, rfl⟩
        simp only [whenB]
        go_wp2_with fail
        refine (alike_ok z ⟨lo, hi⟩ 4 4 _ (by unfold alikeB; simp)).mono ?_
        rintro e w13 ⟨rfl, hb⟩
        have HBZ := Lib.hid (HB11.out.trans (hb.mono HB11.out.size))
        clear hb
        go_wp2_with fail
        go_ret
        exact ⟨rfl, HBZ.out⟩
      · have := ckRange_ok.1 h
        dsimp only at this
        omega
    · have b1 : decide (lo < -999999999) = false := decide_eq_false hl1
      by_cases hl2 : 999999999 < hi
      · have b2 : decide (999999999 < hi) = true := decide_eq_true hl2
        obtain ⟨_, h1, h2⟩ | ⟨h, _⟩ := HOR.out
        · cases h1
          subst h2
          go_wp2_with fail
          refine (when27 true 4 _).mono ?_
          rintro e w12 ⟨rfl, rfl⟩
          simp only [whenB]
          go_wp2_with fail
          refine (alike_ok z ⟨lo, hi⟩ 4 4 _ (by unfold alikeB; simp)).mono ?_
          rintro e w13 ⟨rfl, hb⟩
          have HBZ := Lib.hid (HB11.out.trans (hb.mono HB11.out.size))
          clear hb
          go_wp2_with fail
          go_ret
          exact ⟨rfl, HBZ.out⟩
        · have := ckRange_ok.1 h
          dsimp only at this
          omega
      · have b2 : decide (999999999 < hi) = false := decide_eq_false hl2
        obtain ⟨h, _⟩ | ⟨_, h1, h2⟩ := HOR.out
        · exact absurd (ckRange_ok.2 ⟨by dsimp only; omega, by dsimp only; omega, by dsimp only; omega⟩) h
        · cases h1
          subst h2
          go_wp2_with fail
          refine (when27 false 4 _).mono ?_
          rintro e w12 ⟨rfl, rfl⟩
          simp only [whenB]
          go_wp2_with fail
          refine (alike_ok ⟨xl, xh⟩ ⟨xl, xh⟩ 0 0 _ (by unfold alikeB; simp)).mono ?_
          rintro e w13 ⟨rfl, hb⟩
          have HBZ := Lib.hid (HB11.out.trans (hb.mono HB11.out.size))
          clear hb
          go_wp2_with fail
          go_ret
          exact ⟨rfl, HBZ.out⟩
end Go.Proofs.Ytlakcghdehdeiaa

/- Great books: CheckBook of the reference, tiny. -/
namespace Go.Proofs.Ytlakcghdehdeiaa
open Go Go.Proofs Go.RowKit Go.ChangeShapes Go.WideShapes Go.ChangeAt Go.Joins Go.Deep

set_option maxHeartbeats 1000000 in
theorem ckBook24_a (a1 a2 : Option Addr) (n1 c1 n2 c2 : Nat) (w : World) (h1 : n1 ≤ 9223372036854775807) (hb : 32 < n1) :
    Calls Try.prog 24 #[.agg #[.slice a1 n1 c1, .slice a2 n2 c2]] w (fun e w' => ∃ E : Int, E ≠ 0 ∧ e = .returned (.int .i64 E) ∧ Below w.heap.size w w') := by
  have HW1 := Lib.hid ((Below.refl w.heap.size w).alloc (Nat.le_refl _) (.cells #[.slice a1 n1 c1, .slice a2 n2 c2] 38))
  have hd : decide ((32 : Int) < (n1 : Int)) = true := decide_eq_true (by omega)
  go_enter Try.func24, Try.ntmps24
  go_wp2_with fail
  refine bodyPost_ret (v := .int .i64 5) (by simp [results, Try.results24, go_sem, *]) rfl ?_
  exact ⟨5, by decide, rfl, HW1.out⟩

set_option maxHeartbeats 1000000 in
theorem ckBook24_b (v1 : Value) (st : List Rg) (a2 : Option Addr) (n2 c2 : Nat) (w : World) (hv : Sl Rg.enc 2 w w.heap.size v1 st) (h1 : st.length ≤ 32) (h2 : n2 ≤ 9223372036854775807) (hb : 128 < n2) :
    Calls Try.prog 24 #[.agg #[v1, .slice a2 n2 c2]] w (fun e w' => ∃ E : Int, E ≠ 0 ∧ e = .returned (.int .i64 E) ∧ Below w.heap.size w w') := by
  obtain ⟨a1, c1, rfl, hl1, hA1⟩ := hv
  have HA1 := Lib.hid hA1
  clear hA1
  have HW1 := Lib.hid ((Below.refl w.heap.size w).alloc (Nat.le_refl _) (.cells #[.slice a1 st.length c1, .slice a2 n2 c2] 38))
  have hd : decide ((32 : Int) < (st.length : Int)) = false := decide_eq_false (by omega)
  have hd2 : decide ((128 : Int) < (n2 : Int)) = true := decide_eq_true (by omega)
  go_enter Try.func24, Try.ntmps24
  go_wp2_with fail
  go_loopw [3] (fun j wr => ∃ k : Nat, k ≤ st.length ∧ j = .int .i64 k ∧ Below w.heap.size w wr ∧ Box wr w.heap.size 38 [.slice a1 st.length c1, .slice a2 n2 c2]) (fun j _ => st.length - (intOf j).toNat)
  case atStart => exact ⟨0, by omega, rfl, HW1.out, Box.newAt _ _ _ rfl⟩
  case round =>
    obtain ⟨k, hk, rfl, hbe, hx0⟩ := hrel
    obtain ⟨d0, d1, df, dz⟩ := hx0.v2
    by_cases hlt : k < st.length
    · obtain ⟨bb, off, rfl, hbb, hcells⟩ := HA1.out (by omega)
      obtain ⟨e0, e1⟩ := ((hcells k hlt).below hbe hbb).c2
      clear hcells HA1
      generalize st[k] = x at *
      have hcall := ckRange20 x
      obtain ⟨n, hn⟩ : ∃ n, ckRange x = n := ⟨_, rfl⟩
      rw [hn] at hcall
      have HC := Lib.hid hcall
      clear hcall hn
      by_cases hn0 : n = 0
      · go_wp2_with (go_at_call 20; refine (HC.out _).mono ?_; rintro e w3 ⟨rfl, hb3⟩)
        go_roundw
        case rel => exact ⟨k + 1, by omega, by go_num, hbe.trans (hb3.mono hbe.size), hx0.later hb3⟩
        case measure => simp [intOf]; omega
      · have HN0 := Lib.hid hn0
        have hn1 : (n == 0) = false := beq_eq_false_iff_ne.2 hn0
        go_wp2_with (go_at_call 20; refine (HC.out _).mono ?_; rintro e w3 ⟨rfl, hb3⟩)
        refine bodyPost_ret (v := .int .i64 n) (by simp [results, Try.results24, go_sem, *]) rfl ?_
        exact ⟨n, HN0.out, rfl, hbe.trans (hb3.mono hbe.size)⟩
    · obtain rfl : st.length = k := by omega
      have HB := Lib.hid hbe
      clear hbe hx0
      go_wp2_with fail
      refine bodyPost_ret (v := .int .i64 5) (by simp [results, Try.results24, go_sem, *]) rfl ?_
      exact ⟨5, by decide, rfl, HB.out⟩

/-- tiny says no. -/
def NotTiny (w : World) (v : Value) : Prop := ∀ w1, Below w.heap.size w w1 → Calls Try.prog 39 #[v] w1 (Ret (.bool false) w1)
set_option maxHeartbeats 1000000 in
theorem tiny39_no (v1 v2 : Value) (w : World) (hc : ∀ w1, Below w.heap.size w w1 → Calls Try.prog 24 #[.agg #[v1, v2]] w1 (fun e w' => ∃ E : Int, E ≠ 0 ∧ e = .returned (.int .i64 E) ∧ Below w1.heap.size w1 w')) (hs : (∃ a n c, v1 = .slice a n c) ∧ ∃ a n c, v2 = .slice a n c) :
    NotTiny w (.agg #[v1, v2]) := by
  obtain ⟨⟨a1, n1, c1, rfl⟩, a2, n2, c2, rfl⟩ := hs
  intro w1 hb
  have HB := Lib.hid ((Below.refl w1.heap.size w1).alloc (Nat.le_refl _) (.cells #[.slice a1 n1 c1, .slice a2 n2 c2] 38))
  have HC := Lib.hid (hc _ (hb.trans (HB.out.mono hb.size)))
  clear hc hb
  go_enter Try.func39, Try.ntmps39
  go_wp2_with fail
  refine HC.out.mono ?_
  rintro e w3 ⟨E, hE, rfl, hb3⟩
  have HB3 := Lib.hid (HB.out.trans (hb3.mono HB.out.size))
  have hn1 : (E == 0) = false := beq_eq_false_iff_ne.2 hE
  clear hb3
  go_wp2_with fail
  go_ret
  exact ⟨rfl, HB3.out⟩
theorem notTiny_of {v1 v2 : Value} {b : Bk} {w : World} (hv : BkR w w.heap.size v1 v2 b) (h : tinyB b = false) : NotTiny w (.agg #[v1, v2]) := fun w1 hb => by
  have := tiny39 v1 v2 b w1 (hv.later hb)
  rwa [h] at this
section
variable {H : Type} {enc : TypeId × Value → H} {W W' : World}
set_option maxRecDepth 100000 in
/-- The stock of a book by value. -/
theorem bk_stock {r : Reach} {b0 : Nat} {a1 a2 : Option Addr} {n1 c1 n2 c2 : Nat} {d : DataW H} {p : List MemPlace} (hv : Value.okWide Try.prog W r b0 38 (.agg #[.slice a1 n1 c1, .slice a2 n2 c2])) (h : DataW.Trod enc Try.prog W 0 (fun _ => true) true 38 (.agg #[.slice a1 n1 c1, .slice a2 n2 c2]) d p) (hn : n1 ≤ 1000000000) :
    ∃ l, l.length = n1 ∧ Sl Rg.enc 2 W W.heap.size (.slice a1 n1 c1) l := by
  obtain ⟨v0, v1, y0, y1, n, hvv, _, _, h0, h1⟩ := open_agg2 Try.underlying38 (by kernel_rfl) (by kernel_rfl) hv h
  injection hvv with hvv
  injection hvv with hvv
  injection hvv with e1 hvv
  subst e1
  obtain ⟨k1, k2⟩ := sl_ranges_at h0
  obtain ⟨l1, f1, f2, f3⟩ := k2 hn
  exact ⟨l1, f1, f2⟩
end
theorem notTiny_big {v1 v2 : Value} {w : World} {a1 a2 : Option Addr} {n1 c1 n2 c2 : Nat} (e1 : v1 = .slice a1 n1 c1) (e2 : v2 = .slice a2 n2 c2) (h1 : n1 ≤ 9223372036854775807) (h2 : n2 ≤ 9223372036854775807) (hst : n1 ≤ 32 → ∃ l, l.length = n1 ∧ Sl Rg.enc 2 w w.heap.size v1 l) (hb : 32 < n1 ∨ 128 < n2) : NotTiny w (.agg #[v1, v2]) := by
  subst e1 e2
  refine tiny39_no _ _ w (fun w1 hw => ?_) ⟨⟨_, _, _, rfl⟩, _, _, _, rfl⟩
  by_cases h32 : 32 < n1
  · exact ckBook24_a a1 a2 n1 c1 n2 c2 w1 h1 h32
  · obtain ⟨l, hl, hs⟩ := hst (by omega)
    exact ckBook24_b _ l a2 n2 c2 w1 (hs.later hw) (by omega) h2 (by omega)
end Go.Proofs.Ytlakcghdehdeiaa

/- Walks: all lists of masses that are assignments. -/
namespace Go.Proofs.Ytlakcghdehdeiaa
open Go Go.Proofs Go.RowKit

/-- The head of a slice. -/
structure Hd where
  a : Option Addr
  n : Nat
  c : Nat
def Hd.v (h : Hd) : Value := .slice h.a h.n h.c
def Hd.enc (h : Hd) : List Value := [h.v]
theorem Hd.enc_len (h : Hd) : h.enc.length = 1 := rfl
theorem Hd.enc_one (h : Hd) : ∀ u ∈ h.enc, u.oneCell' = true := by intro u hu; simp [Hd.enc] at hu; subst hu; rfl
theorem Try.under61 : Try.prog.underlying 61 = some (.slice 22) := by kernel_rfl
theorem Try.infoS : (Try.prog.info? 22).map (fun i => (i.zero, i.size, i.bytes)) = some (some (.slice none 0 0), 1, 24) := by kernel_rfl

/-- 'append(s, u...)', both of them slices of the call's. -/
theorem wpList_catO {α : Type} (f : α → List Value) (sz bytes : Nat) (t e : TypeId) (z : Value) {P : Program} (hT : P.underlying t = some (.slice e)) (hI : (P.info? e).map (fun i => (i.zero, i.size, i.bytes)) = some (some z, sz, bytes))
    (hzs : z.cells.size = sz) (hsz : 0 < sz) (hby : bytes ≤ 1000) (hf : ∀ x, (f x).length = sz) (h1c : ∀ x, ∀ u ∈ f x, u.oneCell' = true)
    (l l2 : List α) (base base2 : Nat) (w : World) (v u : Value) (hown : Own f sz e w base v l) (hbase : base ≤ w.heap.size) (hlen : l.length + l2.length ≤ 2000000000) (hu : Own f sz e w base2 u l2)
    {ops : Array Oper} {rest : List Oper} {o : Oper} {a : Act} {Q : Exit → Act → World → Prop} (hgd : o.guard = none) (s y : Operand)
    (ho : o.op = .call { callee := .builtin .append, args := #[s, y], argTypes := #[t, t] }) (hs : a.eval s = v) (hy : a.eval y = u)
    (h : ∀ v' w', Own f sz e w' base v' (l ++ l2) → w.grownBy w' v.ownBlock → wpList P ops Q rest (a.put o.dst v') w') : wpList P ops Q (o :: rest) a w := by
  rcases hu.2 with ⟨hv, h0⟩ | ⟨g, cap, cur, hv, _⟩
  · have hl2 : l2 = [] := List.eq_nil_of_length_eq_zero h0
    subst hl2
    obtain ⟨i, hi, _, _, _⟩ := info_parts hI
    refine wpList_append_own_none hgd s y t ho base e i sz hT hi v l.length _ hs hown (by rw [hy, hv]) ?_
    exact h v w (by rw [List.append_nil]; exact hown) (World.grownBy.refl _ _)
  · refine wpList_cat f sz bytes t e z hT hI hzs hsz hby hf h1c l l2 base w v hown hbase hlen ⟨g, 0, none⟩ cap ?_ hgd s y ho hs (by rw [hy, hv]) h
    intro i hi j q hq
    rw [hv] at hu
    have := hu.at hf i hi j q hq
    rw [Addr.add_lit, Nat.zero_add]
    exact this

/-- A list of lists that the call has made. -/
def LLR (w : World) (base bi : Nat) (v : Value) (LL : List (List Int)) : Prop :=
  ∃ HH : List Hd, Own Hd.enc 1 22 w base v HH ∧ HH.length = LL.length ∧ ∀ i (h : i < HH.length) (h2 : i < LL.length), Own encI 1 3 w bi HH[i].v LL[i]
theorem LLR.later {w w' : World} {base bi : Nat} {v : Value} {LL : List (List Int)} (h : LLR w base bi v LL) (hb : Below w.heap.size w w') : LLR w' base bi v LL := by
  obtain ⟨HH, h1, h2, h3⟩ := h
  exact ⟨HH, h1.later hb, h2, fun i k1 k2 => (h3 i k1 k2).later hb⟩
theorem LLR.nil (w : World) (base bi : Nat) : LLR w base bi (.slice none 0 0) [] := ⟨[], Own.nil _ _ _ _ _, rfl, fun i h => absurd h (by simp)⟩
theorem LLR.push {w w' : World} {base bi : Nat} {v v' : Value} {LL : List (List Int)} {HH : List Hd} {h : Hd} {l : List Int} (h2 : HH.length = LL.length) (h3 : ∀ i (h : i < HH.length) (h2 : i < LL.length), Own encI 1 3 w bi HH[i].v LL[i])
    (hl : Own encI 1 3 w bi h.v l) (hv : Own Hd.enc 1 22 w base v HH) (ho : Own Hd.enc 1 22 w' base v' (HH ++ [h])) (hg : w.grownBy w' v.ownBlock) : LLR w' base bi v' (LL ++ [l]) := by
  refine ⟨HH ++ [h], ho, by simp [h2], fun i k1 k2 => ?_⟩
  have kept : ∀ (q : Value) (l : List Int), Own encI 1 3 w bi q l → Own encI 1 3 w' bi q l := by
    intro q l hq
    refine hq.kept hg ?_
    rcases hqo : q.ownBlock with _ | k
    · exact .inl rfl
    · exact .inr fun e => hq.two_types hv (by decide) k hqo e.symm
  by_cases hi : i < HH.length
  · have e1 : (HH ++ [h])[i] = HH[i] := List.getElem_append_left hi
    have e2 : (LL ++ [l])[i] = LL[i]'(by omega) := List.getElem_append_left (by omega)
    rw [e1, e2]
    exact kept _ _ (h3 i hi (by omega))
  · simp at k1 k2
    have hi2 : i = HH.length := by omega
    subst hi2
    have e1 : (HH ++ [h])[HH.length]'(by simp) = h := by simp
    have e2 : (LL ++ [l])[HH.length]'(by simp; omega) = l := by simp [h2]
    rw [e1, e2]
    exact kept _ _ hl

theorem LLR.lower {w : World} {base base' bi bi' : Nat} {v : Value} {LL : List (List Int)} (h : LLR w base bi v LL) (h1 : base' ≤ base) (h2 : bi' ≤ bi) : LLR w base' bi' v LL := by
  obtain ⟨HH, k1, k2, k3⟩ := h
  exact ⟨HH, k1.lower h1, k2, fun i q1 q2 => (k3 i q1 q2).lower h2⟩
theorem nx_mid {wr wA wB : World} {v1' : Value} {LJ : List Int} {cur : Int} (oA : Own encI 1 3 wA wr.heap.size v1' LJ) (gA : (wr.alloc (.cells #[] 3)).grownBy wA (some wr.heap.size)) (gB : (wA.alloc (.cells #[.int .i64 cur] 3)).grownBy wB v1'.ownBlock) :
    Below wr.heap.size wr wA ∧ Below wr.heap.size wr wB := by
  have h1 : Below wr.heap.size wr wA := ((Below.refl wr.heap.size wr).alloc (Nat.le_refl _) (.cells #[] 3)).grown gA (by simp) (fun k hk => by have : wr.heap.size = k := Option.some.inj hk; omega)
  have h2 := h1.alloc h1.size (.cells #[.int .i64 cur] 3)
  exact ⟨h1, h2.grown gB h2.size (fun k hk => oA.lt' k hk)⟩
theorem nx_push {W1 wr wB wC : World} {vn v3' : Value} {a2 : Option Addr} {n2 c2 : Nat} {NN : List (List Int)} {HH : List Hd} {LJ : List Int} {cur : Int}
    (hb : Below W1.heap.size W1 wr) (h1 : Own Hd.enc 1 22 wr W1.heap.size vn HH) (h2 : HH.length = NN.length) (h3 : ∀ i (h : i < HH.length) (h2 : i < NN.length), Own encI 1 3 wr W1.heap.size HH[i].v NN[i])
    (hm : Below wr.heap.size wr wB)
    (oB : Own encI 1 3 wB wr.heap.size (.slice a2 n2 c2) (LJ ++ [cur]))
    (oC : Own Hd.enc 1 22 wC W1.heap.size v3' (HH ++ [⟨a2, n2, c2⟩])) (gC : (wB.alloc (.cells #[.slice a2 n2 c2] 22)).grownBy wC vn.ownBlock) :
    Below W1.heap.size W1 wC ∧ LLR wC W1.heap.size W1.heap.size v3' (NN ++ [LJ ++ [cur]]) := by
  have k1 := hb.trans (hm.mono hb.size)
  have k2 := k1.alloc k1.size (.cells #[.slice a2 n2 c2] 22)
  refine ⟨k2.grown gC k2.size (fun k hk => h1.lt' k hk), ?_⟩
  exact LLR.push h2 (fun i q1 q2 => ((h3 i q1 q2).later hm).alloc _) ((oB.alloc _).lower hb.size) ((h1.later hm).alloc _) oC gC

/-- The first k masses are within the ranges. -/
def InK (ts : List Tk) (k : Nat) (ms : List Int) : Prop := ms.length = k ∧ ∀ i (h : i < ms.length) (h2 : i < ts.length), (ts[i]).m.has ms[i]
theorem inK_zero {ts : List Tk} {ms : List Int} : InK ts 0 ms ↔ ms = [] := by
  constructor
  · intro h; exact List.eq_nil_of_length_eq_zero h.1
  · rintro rfl; exact ⟨rfl, fun i h => absurd h (by simp)⟩
theorem inK_succ {ts : List Tk} {k : Nat} (hk : k < ts.length) {ms : List Int} : InK ts (k + 1) ms ↔ ∃ l m, InK ts k l ∧ (ts[k]).m.has m ∧ ms = l ++ [m] := by
  constructor
  · rintro ⟨h1, h2⟩
    refine ⟨ms.take k, ms[k]'(by omega), ⟨by simp; omega, fun i h3 h4 => ?_⟩, h2 k (by omega) hk, ?_⟩
    · simp at h3
      rw [List.getElem_take]
      exact h2 i (by omega) h4
    · rw [List.take_append_getElem (by omega), ← h1, List.take_length]
  · rintro ⟨l, m, ⟨h1, h2⟩, h3, rfl⟩
    refine ⟨by simp [h1], fun i h4 h5 => ?_⟩
    by_cases hi : i < l.length
    · rw [List.getElem_append_left hi]; exact h2 i hi h5
    · simp at h4
      have : i = l.length := by omega
      subst this
      simp only [h1] at h5 ⊢
      have e : (l ++ [m])[k]'(by simp; omega) = m := by
        rw [List.getElem_append_right (by omega)]; simp [h1]
      rw [e]; exact h3
theorem isAsg_inK {b : Bk} {ms : List Int} (h : IsAsg b ms) : InK b.ts b.ts.length ms := ⟨h.len, fun i _ h2 => h.tk i h2⟩

/-- The lists before the j-th one, each one with a mass. -/
def NxJ (LL : List (List Int)) (r : Rg) (j : Nat) (ms : List Int) : Prop := ∃ i, ∃ h : i < LL.length, i < j ∧ ∃ m, r.has m ∧ ms = LL[i] ++ [m]
structure NxI (LL : List (List Int)) (r : Rg) (j : Nat) (cur : Int) (NN : List (List Int)) : Prop where
  mem : ∀ ms, ms ∈ NN ↔ NxJ LL r j ms ∨ ∃ h : j < LL.length, ∃ m, r.lo ≤ m ∧ m < cur ∧ ms = LL[j] ++ [m]
  len : (NN.length : Int) ≤ 5 * j + (cur - r.lo)
theorem NxI.start {LL NN : List (List Int)} {r : Rg} {j : Nat} (h1 : ∀ ms, ms ∈ NN ↔ NxJ LL r j ms) (h2 : NN.length ≤ 5 * j) : NxI LL r j r.lo NN :=
  ⟨fun ms => by rw [h1]; exact ⟨.inl, fun h => h.elim id fun ⟨_, m, a, b, _⟩ => by omega⟩, by omega⟩
theorem NxI.more {LL NN : List (List Int)} {r : Rg} {j : Nat} {cur : Int} (h : NxI LL r j cur NN) (hj : j < LL.length) (hlo : r.lo ≤ cur) : NxI LL r j (cur + 1) (NN ++ [LL[j] ++ [cur]]) := by
  refine ⟨fun ms => ?_, by have := h.len; simp; omega⟩
  rw [List.mem_append, h.mem, List.mem_singleton]
  constructor
  · rintro ((h1 | ⟨q, m, a, c, e⟩) | e)
    · exact .inl h1
    · exact .inr ⟨q, m, a, by omega, e⟩
    · exact .inr ⟨hj, cur, hlo, by omega, e⟩
  · rintro (h1 | ⟨q, m, a, c, e⟩)
    · exact .inl (.inl h1)
    · by_cases hm : m = cur
      · subst hm; exact .inr e
      · exact .inl (.inr ⟨q, m, a, by omega, e⟩)
theorem NxI.stop {LL NN : List (List Int)} {r : Rg} {j : Nat} {cur : Int} (h : NxI LL r j cur NN) (hj : j < LL.length) (hc : cur = r.hi + 1) (h5 : r.hi - r.lo ≤ 4) : (∀ ms, ms ∈ NN ↔ NxJ LL r (j + 1) ms) ∧ NN.length ≤ 5 * (j + 1) := by
  subst hc
  refine ⟨fun ms => ?_, by have := h.len; omega⟩
  rw [h.mem]
  constructor
  · rintro (⟨i, hi, a, m, c, e⟩ | ⟨_, m, a, c, e⟩)
    · exact ⟨i, hi, by omega, m, c, e⟩
    · exact ⟨j, hj, by omega, m, ⟨a, by omega⟩, e⟩
  · rintro ⟨i, hi, a, m, c, e⟩
    by_cases hij : i = j
    · subst hij; exact .inr ⟨hj, m, c.1, by have := c.2; omega, e⟩
    · exact .inl ⟨i, hi, by omega, m, c, e⟩
theorem nxJ_all {ts : List Tk} {k : Nat} (hk : k < ts.length) {LL : List (List Int)} (hL : ∀ ms, ms ∈ LL ↔ InK ts k ms) {ms : List Int} : NxJ LL (ts[k]).m LL.length ms ↔ InK ts (k + 1) ms := by
  rw [inK_succ hk]
  constructor
  · rintro ⟨i, hi, _, m, hm, rfl⟩
    exact ⟨_, m, (hL _).1 (List.getElem_mem hi), hm, rfl⟩
  · rintro ⟨l, m, hl, hm, rfl⟩
    obtain ⟨i, hi, rfl⟩ := List.mem_iff_getElem.1 ((hL l).2 hl)
    exact ⟨i, hi, hi, m, hm, rfl⟩

def AllPost (w : World) (b : Bk) (e : Ending) (w' : World) : Prop :=
  ∃ (v : Value) (HH : List Hd) (LL : List (List Int)), e = .returned v ∧ Below w.heap.size w w' ∧ Sl Hd.enc 1 w' w'.heap.size v HH ∧ HH.length = LL.length ∧ (∀ i (h : i < HH.length) (h2 : i < LL.length), Sl encI 1 w' w'.heap.size HH[i].v LL[i]) ∧ (∀ ms, ms ∈ LL ↔ IsAsg b ms) ∧ LL.length ≤ 625

/-- What the last loop has found. -/
structure OutW (W2 wr : World) (vo : Value) (b : Bk) (LL : List (List Int)) (k : Nat) : Prop where
  below : Below W2.heap.size W2 wr
  out : ∃ (HO : List Hd) (OO : List (List Int)), Own Hd.enc 1 22 wr W2.heap.size vo HO ∧ HO.length = OO.length ∧ OO.length ≤ k ∧ (∀ i (h : i < HO.length) (h2 : i < OO.length), ∃ bi, Own encI 1 3 W2 bi HO[i].v OO[i]) ∧ ∀ ms, ms ∈ OO ↔ ms ∈ LL.take k ∧ IsAsg b ms
theorem OutW.skip {W2 wr w' : World} {vo : Value} {b : Bk} {LL : List (List Int)} {k : Nat} (h : OutW W2 wr vo b LL k) (hk : k < LL.length) (hn : ¬ IsAsg b LL[k]) (hb : Below wr.heap.size wr w') : OutW W2 w' vo b LL (k + 1) := by
  obtain ⟨h1, HO, OO, h2, h3, h4, h5, h6⟩ := h
  refine ⟨h1.trans (hb.mono h1.size), HO, OO, h2.later hb, h3, by omega, h5, fun ms => ?_⟩
  rw [h6, List.take_succ_eq_append_getElem hk, List.mem_append, List.mem_singleton]
  constructor
  · rintro ⟨a, c⟩; exact ⟨.inl a, c⟩
  · rintro ⟨a | rfl, c⟩
    · exact ⟨a, c⟩
    · exact absurd c hn
theorem OutW.take {W2 w' w3 : World} {vo v' : Value} {b : Bk} {LL : List (List Int)} {k bi : Nat} {HO : List Hd} {OO : List (List Int)} {h : Hd} (hb : Below W2.heap.size W2 w3) (h2 : Own Hd.enc 1 22 w3 W2.heap.size vo HO) (h3 : HO.length = OO.length) (h4 : OO.length ≤ k) (h5 : ∀ i (h : i < HO.length) (h2 : i < OO.length), ∃ bi, Own encI 1 3 W2 bi HO[i].v OO[i])
    (h6 : ∀ ms, ms ∈ OO ↔ ms ∈ LL.take k ∧ IsAsg b ms) (hk : k < LL.length) (hn : IsAsg b LL[k]) (hh : Own encI 1 3 W2 bi h.v LL[k]) (ho : Own Hd.enc 1 22 w' W2.heap.size v' (HO ++ [h])) (hg : w3.grownBy w' vo.ownBlock) : OutW W2 w' v' b LL (k + 1) := by
  refine ⟨hb.grown hg hb.size (fun q hq => h2.lt' q hq), HO ++ [h], OO ++ [LL[k]], ho, by simp [h3], by simp; omega, fun i k1 k2 => ?_, fun ms => ?_⟩
  · by_cases hi : i < HO.length
    · have e1 : (HO ++ [h])[i] = HO[i] := List.getElem_append_left hi
      have e2 : (OO ++ [LL[k]])[i] = OO[i]'(by omega) := List.getElem_append_left (by omega)
      rw [e1, e2]; exact h5 i hi (by omega)
    · simp at k1
      have hi2 : i = HO.length := by omega
      subst hi2
      have e1 : (HO ++ [h])[HO.length]'(by simp) = h := by simp
      have e2 : (OO ++ [LL[k]])[HO.length]'(by simp; omega) = LL[k] := by simp [h3]
      rw [e1, e2]; exact ⟨bi, hh⟩
  · rw [List.mem_append, h6, List.mem_singleton, List.take_succ_eq_append_getElem hk, List.mem_append, List.mem_singleton]
    constructor
    · rintro (⟨a, c⟩ | rfl)
      · exact ⟨.inl a, c⟩
      · exact ⟨.inr rfl, hn⟩
    · rintro ⟨a | rfl, c⟩
      · exact .inl ⟨a, c⟩
      · exact .inr rfl
end Go.Proofs.Ytlakcghdehdeiaa

/- Walks: all. -/
namespace Go.Proofs.Ytlakcghdehdeiaa
open Go Go.Proofs Go.RowKit

theorem ex_bool' (p : Prop) : ∃ R : Bool, R = true ↔ p := by classical exact ⟨decide p, by simp⟩
set_option maxRecDepth 100000 in
set_option maxHeartbeats 1000000 in
theorem all40 (w : World) (v1 v2 : Value) (b : Bk) (hv : BkR w w.heap.size v1 v2 b) (hck : ckBook b = 0) (h4 : b.ts.length ≤ 4) (h5 : ∀ t ∈ b.ts, t.m.hi - t.m.lo ≤ 4) :
    Calls Try.prog 40 #[.agg #[v1, v2]] w (AllPost w b) := by
  have HH28 := Lib.hid (fun (w1 : World) (hb : Below w.heap.size w w1) (q : Value) (ms : List Int) (h : Sl encI 1 w1 w1.heap.size q ms) (hl : ms.length = b.ts.length) (R : Bool) (hR : R = true ↔ IsAsg b ms) => holds28 v1 v2 q b ms w1 (hv.later hb) h hl hck R hR)
  have hok := okBk_of hck
  have HOK := Lib.hid hok
  have H5 := Lib.hid h5
  obtain ⟨⟨a1, n1, hv1, hl1, hA1⟩, ⟨a2, n2, hv2, hl2, hA2⟩, hids⟩ := hv
  subst hv1 hv2
  have HA2 := Lib.hid hA2
  clear hA2
  clear hA1 hids h5 hck hok
  go_enter Try.func40, Try.ntmps40
  go_wp2_with fail
  have hbx := (Box.new w #[.slice a1 b.st.length n1, .slice a2 b.ts.length n2] 38).alloc (.cells #[.slice none 0 0] 22)
  have hbl : Below w.heap.size w ((w.alloc (.cells #[.slice a1 b.st.length n1, .slice a2 b.ts.length n2] 38)).alloc (.cells #[.slice none 0 0] 22)) := ((Below.refl _ _).alloc (Nat.le_refl _) _).alloc (by simp) _
  have hll : LLR ((w.alloc (.cells #[.slice a1 b.st.length n1, .slice a2 b.ts.length n2] 38)).alloc (.cells #[.slice none 0 0] 22)) (w.heap.size + 1) 0 (.slice (some ⟨w.heap.size + 1, 0, none⟩) 1 1) [[]] := by
    refine ⟨[⟨none, 0, 0⟩], ?_, rfl, fun i h1 h2 => ?_⟩
    · have := Own.lit (f := Hd.enc) (sz := 1) Hd.enc_len 22 [⟨none, 0, 0⟩] (w.alloc (.cells #[.slice a1 b.st.length n1, .slice a2 b.ts.length n2] 38)) #[.slice none 0 0] 1 (w.heap.size + 1) rfl rfl (by simp) (by simp)
      simpa using this
    · simp at h1 h2
      subst h1
      exact Own.nil _ _ _ _ _
  generalize (w.alloc (.cells #[.slice a1 b.st.length n1, .slice a2 b.ts.length n2] 38)).alloc (.cells #[.slice none 0 0] 22) = w1 at *
  go_loopw [4, 3] (fun i o wr => ∃ (k : Nat) (vo : Value) (LL : List (List Int)), k ≤ b.ts.length ∧ i = .int .i64 k ∧ o = vo ∧ Below w.heap.size w wr ∧ Box wr w.heap.size 38 [.slice a1 b.st.length n1, .slice a2 b.ts.length n2] ∧ LLR wr (w.heap.size + 1) 0 vo LL ∧ (∀ ms, ms ∈ LL ↔ InK b.ts k ms) ∧ LL.length ≤ 5 ^ k) (fun i _ _ => b.ts.length - (intOf i).toNat)
  case atStart => exact ⟨0, _, [[]], by omega, rfl, rfl, hbl, hbx, hll, fun ms => by rw [inK_zero]; simp, by simp⟩
  case round =>
    clear hbl hbx hll
    obtain ⟨k, vo, LL, hk, rfl, rfl, hbe, hbx, hll, hmem, hlen⟩ := hrel
    have HMEM := Lib.hid hmem
    obtain ⟨x0, x1, xf, xz⟩ := hbx.v2
    have hp : 5 ^ k ≤ 625 := Nat.le_trans (Nat.pow_le_pow_right (by omega) (show k ≤ 4 by omega)) (by decide)
    have HLEN := Lib.hid hlen
    have hL625 : LL.length ≤ 625 := by omega
    clear hlen hmem
    obtain ⟨HL, hown, hHL, hin⟩ := hll
    obtain ⟨ao, co, hsh⟩ := hown.shape
    subst hsh
    obtain ⟨nL, hnL⟩ : ∃ n, LL.length = n := ⟨_, rfl⟩
    have hHn : HL.length = nL := by omega
    rw [hHn] at hown ⊢
    have HNL := Lib.hid hnL
    have HHN := Lib.hid hHn
    have HOWN := Lib.hid hown
    have HIN := Lib.hid hin
    have HBE := Lib.hid hbe
    have HBX := Lib.hid hbx
    rw [hnL] at hL625
    clear hnL hHn hown hin hbe hbx hHL
    by_cases hlt : k < b.ts.length
    · have HT5 := Lib.hid (H5.out b.ts[k] (List.getElem_mem hlt))
      have HTM := Lib.hid (HOK.out.tk b.ts[k] (List.getElem_mem hlt))
      obtain ⟨bb, off, hat, hbb, hcells⟩ := HA2.out (by omega)
      subst hat
      have HCE := Lib.hid (hcells k hlt)
      have HNX := Lib.hid (fun ms => nxJ_all (ms := ms) hlt HMEM.out)
      rw [HNL.out] at HNX
      obtain ⟨tt, htt⟩ : ∃ t, b.ts[k] = t := ⟨_, rfl⟩
      rw [htt] at HT5 HTM HCE HNX
      clear hcells htt
      go_wp2_with fail
      obtain ⟨W1, hW1⟩ : ∃ W1 : World, W1 = wr := ⟨_, rfl⟩
      subst hW1
      go_loopw [6, 5] (fun j o wr => ∃ (j0 : Nat) (vn : Value) (NN : List (List Int)), j0 ≤ nL ∧ j = .int .i64 j0 ∧ o = vn ∧ Below W1.heap.size W1 wr ∧ LLR wr W1.heap.size W1.heap.size vn NN ∧ (∀ ms, ms ∈ NN ↔ NxJ LL tt.m j0 ms) ∧ NN.length ≤ 5 * j0) (fun j _ _ => nL - (intOf j).toNat)
      case atStart => exact ⟨0, _, [], by omega, rfl, rfl, Below.refl _ _, LLR.nil _ _ _, fun ms => ⟨fun h => (by simp at h), fun ⟨i, _, h, _⟩ => (by omega)⟩, by simp⟩
      case round =>
        obtain ⟨j0, vn, NN, hj, rfl, rfl, hb1, hnn, hnm, hnl⟩ := hrel
        clear x0 x1 xf xz
        have HXr := Lib.hid (HBX.out.later hb1)
        have HBr := Lib.hid (HBE.out.trans (hb1.mono HBE.out.size))
        have HB1 := Lib.hid hb1
        have HNN := Lib.hid hnn
        have HNM := Lib.hid hnm
        have HNS := Lib.hid hnl
        obtain ⟨x0, x1, xf, xz⟩ := HXr.out.v2
        by_cases hjl : j0 < nL
        · have hbz : bb < wr.heap.size := by have := HBr.out.size; omega
          obtain ⟨e0, e1, e2, e3, e4⟩ := (HCE.out.below HBr.out hbb).c5
          have HJL := Lib.hid (show j0 < LL.length by rw [HNL.out]; exact hjl)
          have HNX0 := Lib.hid (NxI.start HNM.out HNS.out)
          obtain ⟨lo, hlo⟩ : ∃ x, tt.m.lo = x := ⟨_, rfl⟩
          obtain ⟨hi, hhi⟩ : ∃ x, tt.m.hi = x := ⟨_, rfl⟩
          have htm := HTM.out
          have ht5 := HT5.out
          have HM := Lib.hid (show tt.m = ⟨lo, hi⟩ by rw [← hlo, ← hhi])
          rw [hlo] at e3 htm ht5 HNX0
          rw [hhi] at e4 htm ht5
          obtain ⟨_, _, _, _, _, m1, m2, m3⟩ := htm
          have HLO := Lib.hid hlo
          have HHI := Lib.hid hhi
          clear hlo hhi hb1 hnn hnm hnl e0 e1 e2
          obtain ⟨LJ, hLJ⟩ : ∃ l, LL[j0]'HJL.out = l := ⟨_, rfl⟩
          have HLJ := Lib.hid hLJ
          have hjh : j0 < HL.length := by rw [HHN.out]; exact hjl
          have HOJ := Lib.hid (show Own encI 1 3 W1 0 (HL[j0]'hjh).v LJ from by rw [← hLJ]; exact HIN.out j0 hjh HJL.out)
          obtain ⟨go, cgo, hgo, hgob, hgoz⟩ := HOWN.out.form (by omega)
          rw [HHN.out] at hgo
          injection hgo with g1 g2 g3
          subst g1 g3
          clear g2
          have HC0 := Lib.hid (HOWN.out.atN HHN.out Hd.enc_len j0 hjh)
          obtain ⟨hd, hhd⟩ : ∃ h, HL[j0]'hjh = h := ⟨_, rfl⟩
          rw [hhd] at HOJ HC0
          have HLL8 := Lib.hid (show LJ.length ≤ 1000 by
            have := (HMEM.out LJ).1 (by rw [← hLJ]; exact List.getElem_mem _)
            rw [this.1]; omega)
          clear hhd hLJ
          go_wp2_with fail
          go_loopw [7, 5] (fun c o wr => ∃ (cur : Int) (vn : Value) (NN : List (List Int)), lo ≤ cur ∧ cur ≤ hi + 1 ∧ c = .int .i64 cur ∧ o = vn ∧ Below W1.heap.size W1 wr ∧ LLR wr W1.heap.size W1.heap.size vn NN ∧ NxI LL tt.m j0 cur NN) (fun c _ _ => (hi + 1 - intOf c).toNat)
          case atStart => exact ⟨lo, _, NN, by omega, by omega, rfl, rfl, HB1.out, HNN.out, HNX0.out⟩
          case round =>
            clear x0 x1 xf xz e3 e4 HXr HBr HB1 HNN HNM HNS HNX0
            obtain ⟨cur, vn, NN, hc1, hc2, rfl, rfl, hb1, hnn, hni⟩ := hrel
            have HXr := Lib.hid (HBX.out.later hb1)
            have HBr := Lib.hid (HBE.out.trans (hb1.mono HBE.out.size))
            have HB1 := Lib.hid hb1
            have HNI := Lib.hid hni
            have hbz : bb < wr.heap.size := by have := HBr.out.size; omega
            obtain ⟨x0, x1, xf, xz⟩ := HXr.out.v2
            obtain ⟨e0, e1, e2, e3, e4⟩ := (HCE.out.below HBr.out hbb).c5
            rw [HLO.out] at e3
            rw [HHI.out] at e4
            clear e0 e1 e2
            by_cases hcl : cur ≤ hi
            · have c0 := (At.below HC0.out hb1 hgoz).c1
              rw [Nat.mul_one] at c0
              have hgz : go < wr.heap.size := by have := hb1.size; omega
              obtain ⟨HH, q1, q2, q3⟩ := hnn
              have Q1 := Lib.hid q1
              have Q2 := Lib.hid q2
              have Q3 := Lib.hid q3
              have QN := Lib.hid (show HH.length ≤ 1000000 by have := HNI.out.len; have := HLO.out; have := Q2.out; omega)
              have HOJr := Lib.hid ((HOJ.out.later hb1).alloc (.cells #[] 3))
              have HLIT := Lib.hid (Own.lit (f := encI) (sz := 1) (l := []) encI_len 3 wr #[] 0 wr.heap.size rfl rfl (by simp) (Nat.le_refl _))
              have HC1 := Lib.hid c0
              have HSA := Lib.hid (show wr.heap.size ≤ (wr.alloc (.cells #[] 3)).heap.size by simp)
              clear hb1 q1 q2 q3 hni
              generalize hd.v = dv at *
              go_wp2_with (first
                | (at_builtin; refine wpList_catO encI 1 8 22 3 _ Try.underlying22 Try.infoI rfl (by decide) (by decide) encI_len encI_one [] LJ wr.heap.size 0 (wr.alloc (.cells #[] 3)) (.slice (some ⟨wr.heap.size, 0, none⟩) 0 0) dv HLIT.out HSA.out (by have := HLL8.out; simp; omega) HOJr.out rfl _ _ rfl rfl rfl ?_; intro vA wA hoA hgA; have OA := Lib.hid (show Own encI 1 3 wA wr.heap.size vA LJ from hoA); have GA := Lib.hid (show (wr.alloc (.cells #[] 3)).grownBy wA (some wr.heap.size) from hgA); have HSB := Lib.hid (show wr.heap.size ≤ (wA.alloc (.cells #[.int .i64 cur] 3)).heap.size by have := hgA.size; simp at this ⊢; omega); have HNA := Lib.hid (show (wA.alloc (.cells #[.int .i64 cur] 3)).heap[wA.heap.size]? = some (.cells #[.int .i64 cur] 3 (0, 0)) by simpa using heap_alloc_new wA (.cells #[.int .i64 cur] 3)); clear hoA hgA)
                | (at_builtin; refine wpList_pushB encI 1 8 22 3 _ Try.underlying22 Try.infoI rfl (by decide) (by decide) encI_len encI_one LJ cur wr.heap.size (wA.alloc (.cells #[.int .i64 cur] 3)) wA.heap.size #[.int .i64 cur] 3 HNA.out rfl vA (OA.out.alloc _) HSB.out (by have := HLL8.out; omega) rfl _ _ rfl rfl rfl ?_; intro vB wB hoB hgB; obtain ⟨aB, cB, hvB⟩ := hoB.shape; subst hvB; have OB := Lib.hid hoB; have GB := Lib.hid hgB; have MB := Lib.hid (nx_mid OA.out GA.out hgB).2; generalize (LJ ++ [cur]).length = nB at *; have HNB := Lib.hid (show (wB.alloc (.cells #[.slice aB nB cB] 22)).heap[wB.heap.size]? = some (.cells #[.slice aB nB cB] 22 (0, 0)) by simpa using heap_alloc_new wB (.cells #[.slice aB nB cB] 22)); have QB := Lib.hid ((Q1.out.later MB.out).alloc (.cells #[.slice aB nB cB] 22)); have HSC := Lib.hid (show W1.heap.size ≤ (wB.alloc (.cells #[.slice aB nB cB] 22)).heap.size by have := MB.out.size; have := HB1.out.size; simp; omega); clear hoB hgB)
                | (at_builtin; refine wpList_pushB Hd.enc 1 24 61 22 _ Try.under61 Try.infoS rfl (by decide) (by decide) Hd.enc_len Hd.enc_one HH ⟨aB, nB, cB⟩ W1.heap.size (wB.alloc (.cells #[.slice aB nB cB] 22)) wB.heap.size #[.slice aB nB cB] 22 HNB.out rfl _ QB.out HSC.out QN.out rfl _ _ rfl rfl rfl ?_; intro vC wC hoC hgC; have HNP := Lib.hid (nx_push HB1.out Q1.out Q2.out Q3.out MB.out OB.out hoC hgC); clear hoC hgC))
              have w1 : IntKind.i64.wrap (cur + 1) = cur + 1 := IntWalk.i64_in _ (by omega)
              go_roundw
              case rel =>
                have hmore := HNI.out.more HJL.out (by rw [HLO.out]; omega)
                rw [HLJ.out] at hmore
                exact ⟨cur + 1, _, _, by omega, by omega, by go_num, rfl, HNP.out.1, HNP.out.2, hmore⟩
              case measure => simp [intOf]; omega
            · have hce : cur = hi + 1 := by omega
              have HST := Lib.hid (NxI.stop hni HJL.out (by rw [HHI.out]; exact hce) (by rw [HLO.out, HHI.out]; omega))
              have HNN := Lib.hid hnn
              subst hce
              clear hb1 hnn hni
              go_wp2_with fail
              go_roundw
              case rel => exact ⟨j0 + 1, _, _, by omega, by go_num, rfl, HB1.out, HNN.out, HST.out.1, HST.out.2⟩
              case measure => simp [intOf]; omega
        · obtain rfl : nL = j0 := by omega
          have HFI := Lib.hid (hnn.lower (base' := w.heap.size + 1) (bi' := 0) (by have := HBX.out.lt; omega) (by omega))
          clear hb1 hnn
          go_wp2_with fail
          go_roundw
          case rel =>
            refine ⟨k + 1, _, NN, by omega, by go_num, rfl, HBr.out, HXr.out, HFI.out, fun ms => by rw [HNM.out, HNX.out], ?_⟩
            have h1 := HNS.out
            have h2 := HLEN.out
            rw [HNL.out] at h2
            rw [Nat.pow_succ]
            omega
          case measure => simp [intOf]; omega
    · obtain rfl : b.ts.length = k := by omega
      go_wp2_with fail
      obtain ⟨W2, hW2⟩ : ∃ W2 : World, W2 = wr := ⟨_, rfl⟩
      subst hW2
      go_loopw [9, 8] (fun i o wr => ∃ (k : Nat) (vo : Value), k ≤ nL ∧ i = .int .i64 k ∧ o = vo ∧ OutW W2 wr vo b LL k) (fun i _ _ => nL - (intOf i).toNat)
      case atStart => exact ⟨0, _, by omega, rfl, rfl, Below.refl _ _, [], [], Own.nil _ _ _ _ _, rfl, by simp, fun i h => absurd h (by simp), fun ms => by simp⟩
      case round =>
        clear x0 x1 xf xz
        obtain ⟨k, vo, hk2, rfl, rfl, how⟩ := hrel
        have HOW := Lib.hid how
        have HXr := Lib.hid (HBX.out.later how.below)
        have HBr := Lib.hid (HBE.out.trans (how.below.mono HBE.out.size))
        obtain ⟨x0, x1, xf, xz⟩ := HXr.out.v2
        by_cases hlt2 : k < nL
        · have HJL := Lib.hid (show k < LL.length by rw [HNL.out]; exact hlt2)
          obtain ⟨LJ, hLJ⟩ : ∃ l, LL[k]'HJL.out = l := ⟨_, rfl⟩
          have HLJ := Lib.hid hLJ
          have hjh : k < HL.length := by rw [HHN.out]; exact hlt2
          have HOJ := Lib.hid (show Own encI 1 3 W2 0 (HL[k]'hjh).v LJ from by rw [← hLJ]; exact HIN.out k hjh HJL.out)
          obtain ⟨go, cgo, hgo, hgob, hgoz⟩ := HOWN.out.form (by omega)
          rw [HHN.out] at hgo
          injection hgo with g1 g2 g3
          subst g1 g3
          clear g2
          have HC0 := Lib.hid (HOWN.out.atN HHN.out Hd.enc_len k hjh)
          obtain ⟨hd, hhd⟩ : ∃ h, HL[k]'hjh = h := ⟨_, rfl⟩
          rw [hhd] at HOJ HC0
          have HLEN2 := Lib.hid (show LJ.length = b.ts.length from ((HMEM.out LJ).1 (by rw [← hLJ]; exact List.getElem_mem _)).1)
          have HCA := Lib.hid (fun (w' : World) (hb : Below W2.heap.size W2 w') => by
            have c0 := (At.below HC0.out hb hgoz).c1
            rw [Nat.mul_one] at c0
            exact c0)
          have c0 := HCA.out _ how.below
          have hgz : go < wr.heap.size := by have := how.below.size; omega
          obtain ⟨R, hR⟩ := ex_bool' (IsAsg b LJ)
          have HRR := Lib.hid hR
          obtain ⟨ha, hn, hc⟩ := hd
          have hdv : Hd.v ⟨ha, hn, hc⟩ = .slice ha hn hc := rfl
          rw [hdv] at c0
          have HDV := Lib.hid hdv
          clear hhd hLJ how hR hdv
          go_wp2_with fail
          refine wp_region_head_drew 5 (by kernel_rfl) (by kernel_rfl) ?_
          simp only [List.take_succ_cons, List.take_zero, List.drop_succ_cons, List.drop_zero]
          repeat go_big_quiet_step (fail)
          refine wpQuiet_nil ?_
          rintro _ ⟨nq, rfl⟩
          clear c0
          go_wp2_with fail
          refine (HH28.out _ (below_drewN HBr.out nq) (.slice ha hn hc) LJ (by rw [← HDV.out]; exact ((HOJ.out.later HOW.out.below).toSl encI_len (by rw [HLEN2.out]; omega)).later (below_drewN (Below.refl _ _) nq)) HLEN2.out R HRR.out).mono ?_
          rintro e w3 ⟨rfl, hb3'⟩
          have hb3 : Below wr.heap.size wr w3 := (below_drewN (Below.refl _ _) nq).trans hb3'
          have HB3 := Lib.hid hb3
          have hz3 := hb3.size
          have hgz3 : go < w3.heap.size := by omega
          clear hb3' x0 x1 xf xz
          cases R with
          | true =>
            have c0 := HCA.out _ (HOW.out.below.trans (hb3.mono HOW.out.below.size))
            rw [HDV.out] at c0
            obtain ⟨h1, HO, OO, h2, h3, h4, h5, h6⟩ := HOW.out
            have O1 := Lib.hid (h1.trans (hb3.mono h1.size))
            have O2 := Lib.hid (h2.later hb3)
            have O3 := Lib.hid h3
            have O4 := Lib.hid h4
            have O5 := Lib.hid h5
            have O6 := Lib.hid h6
            have ON := Lib.hid (show HO.length ≤ 1000000 by omega)
            have OA := Lib.hid (O2.out.alloc (.cells #[.slice ha hn hc] 22))
            have OZ := Lib.hid (show W2.heap.size ≤ (w3.alloc (.cells #[.slice ha hn hc] 22)).heap.size by have := O1.out.size; simp; omega)
            have HNW := Lib.hid (show (w3.alloc (.cells #[.slice ha hn hc] 22)).heap[w3.heap.size]? = some (.cells #[.slice ha hn hc] 22 (0, 0)) by simpa using heap_alloc_new w3 (.cells #[.slice ha hn hc] 22))
            have HCS := Lib.hid (show (#[Value.slice ha hn hc] : Array Value).toList = Hd.enc ⟨ha, hn, hc⟩ from rfl)
            clear h1 h2 h3 h4 h5 h6 hb3
            go_wp2_with (at_builtin; refine wpList_pushB Hd.enc 1 24 61 22 _ Try.under61 Try.infoS rfl (by decide) (by decide) Hd.enc_len Hd.enc_one HO ⟨ha, hn, hc⟩ W2.heap.size (w3.alloc (.cells #[.slice ha hn hc] 22)) w3.heap.size #[.slice ha hn hc] 22 HNW.out HCS.out _ OA.out OZ.out ON.out rfl _ _ rfl rfl rfl ?_; intro vC wC hoC hgC; have HNP := Lib.hid (OutW.take (O1.out.alloc O1.out.size (.cells #[.slice ha hn hc] 22)) OA.out O3.out O4.out O5.out O6.out HJL.out (by rw [HLJ.out]; exact HRR.out.1 (by trivial)) (by rw [HLJ.out]; exact HOJ.out) hoC hgC); clear hoC hgC)
            go_roundw
            case rel => exact ⟨k + 1, _, by omega, by go_num, rfl, HNP.out⟩
            case measure => simp [intOf]; omega
          | false =>
            have HNP := Lib.hid (HOW.out.skip HJL.out (by rw [HLJ.out]; exact fun h => by have := HRR.out.2 h; cases this) hb3)
            clear hb3
            go_wp2_with fail
            go_roundw
            case rel => exact ⟨k + 1, _, by omega, by go_num, rfl, HNP.out⟩
            case measure => simp [intOf]; omega
        · obtain rfl : nL = k := by omega
          have HFI : Hid (AllPost w b (.returned u8) wr) := Lib.hid (by
            obtain ⟨h1, HO, OO, h2, h3, h4, h5, h6⟩ := how
            refine ⟨_, HO, OO, rfl, HBr.out, h2.toSl Hd.enc_len (by omega), h3, fun i q1 q2 => ?_, fun ms => ?_, by omega⟩
            · obtain ⟨bi, hq⟩ := h5 i q1 q2
              have hm : OO[i] ∈ LL := List.mem_of_mem_take ((h6 _).1 (List.getElem_mem q2)).1
              have hl : (OO[i]).length = b.ts.length := ((HMEM.out _).1 hm).1
              exact (hq.later h1).toSl encI_len (by rw [hl]; omega)
            · rw [h6, ← HNL.out, List.take_length]
              exact ⟨fun h => h.2, fun h => ⟨(HMEM.out _).2 (isAsg_inK h), h⟩⟩)
          clear how
          go_wp2_with fail
          refine bodyPost_ret (v := u8) (by simp [results, Try.results40, go_sem, *]) rfl ?_
          exact HFI.out
end Go.Proofs.Ytlakcghdehdeiaa

/- The law of Exhausts, walked. -/
namespace Go
open Go.RowKit Go.Proofs
section
variable {P : Program} {l : List Oper} {W : World} {Q : Exit → Act → World → Prop} {a0 : Act}
/-- A region that draws its order: operation b makes a block; the other head operations are quiet in every world that has grown; the last ones run in the text's order behind them. -/
theorem wp_region_flowA {id : Nat} (n b : Nat) (ob : Oper) (e : TypeId) (hm : P.follows .mixedOrders = true) (hB : Region.flowB l.toArray n b = true) (hob : l[b]? = some ob)
    (hh : ∃ A, (∀ Y : Later W, wpQuiet P l.toArray (fun w' => ∃ X : Later2 Y, w' = X.w) (fun a' => a' = A) (headsOf l n b) a0) ∧
      ∃ cs, (∀ w, (execOp A.eval ob).run P w = .ok (.value (.pointer (some ⟨w.heap.size, 0, none⟩))) (w.alloc (.cells cs e))) ∧
        ∀ g w, Below W.heap.size W w → W.heap.size ≤ g → w.heap[g]? = some (.cells cs e (0, 0)) → wpList P l.toArray Q (l.drop n) (A.put ob.dst (.pointer (some ⟨g, 0, none⟩))) w) :
    (Code.region id l.toArray true).wp P Q a0 W := by
  obtain ⟨A, hq, cs, hb, ht⟩ := hh
  refine wp_region_any hm ?_
  have hB' := hB
  simp only [Region.flowB, Bool.and_eq_true, decide_eq_true_eq] at hB'
  have hn := hB'.1.1.1.1.1.1.1.1.2
  have inv0 : HeadInv .any l.toArray n (Array.replicate l.toArray.size false) :=
    ⟨by simp, fun j oj _ hl => (by rw [getD_replicate_false] at hl; cases hl), fun t _ ht => getD_in (by simpa using ht) (getD_replicate_false _ _)⟩
  have h := flow_run (W := W) (a0 := a0) (A := A) (bv := fun g => .pointer (some ⟨g, 0, none⟩)) (B := fun g w => W.heap.size ≤ g ∧ w.heap[g]? = some (.cells cs e (0, 0))) (Q := Q) hB hob hq
    (fun w hw => ⟨_, hb w, ⟨hw.size, heap_alloc_new w _⟩, (Below.refl _ _).alloc (Nat.le_refl _) _⟩)
    (fun g w w' h hw => ⟨h.1, (hw.block g (Array.getElem?_eq_some_iff.1 h.2).1).trans h.2⟩)
    (fun g w hw h => ht g w hw h.1 h.2) n (List.range n) (Array.replicate l.toArray.size false) a0 { W with drawn := W.drawn + 1 } 0 (by simp) List.nodup_range (fun i => by rw [List.mem_range]; exact ⟨fun h => ⟨h, getD_replicate_false _ _⟩, fun h => h.1⟩)
    ⟨inv0, ⟨rfl, rfl, rfl, Nat.le_refl _, fun _ _ => rfl⟩, rfl, rfl, fun j o t _ _ _ _ => by rw [getD_replicate_false]; rfl, fun t _ => by rw [getD_replicate_false]; rfl, fun _ _ => rfl, fun h => by rw [getD_replicate_false] at h; cases h⟩
  rwa [show n + (l.toArray.size - n) = l.toArray.size by omega] at h
end
end Go
namespace Go.Proofs.Ytlakcghdehdeiaa
open Go Go.Proofs Go.RowKit

/-- The least and the greatest value in the first k lists. -/
structure Exk (LL : List (List Int)) (f : List Int → Int) (k : Nat) (lo hi : Int) : Prop where
  a : ∃ ms, ms ∈ LL ∧ f ms = lo
  b : ∃ ms, ms ∈ LL ∧ f ms = hi
  le : lo ≤ hi
  all : ∀ ms ∈ LL.take k, lo ≤ f ms ∧ f ms ≤ hi
theorem Exk.start {LL : List (List Int)} (f : List Int → Int) (h : 0 < LL.length) : Exk LL f 0 (f LL[0]) (f LL[0]) := ⟨⟨_, List.getElem_mem h, rfl⟩, ⟨_, List.getElem_mem h, rfl⟩, Int.le_refl _, by simp⟩
theorem Exk.step {LL : List (List Int)} {f : List Int → Int} {k : Nat} {lo hi y : Int} (h : Exk LL f k lo hi) (hk : k < LL.length) (hy : f LL[k] = y) : Exk LL f (k + 1) (if y < lo then y else lo) (if hi < y then y else hi) := by
  obtain ⟨h1, h2, h3, h4⟩ := h
  refine ⟨?_, ?_, ?_, ?_⟩
  · split
    · exact ⟨_, List.getElem_mem hk, hy⟩
    · exact h1
  · split
    · exact ⟨_, List.getElem_mem hk, hy⟩
    · exact h2
  · split <;> split <;> omega
  · intro ms hm
    rw [List.take_succ_eq_append_getElem hk, List.mem_append, List.mem_singleton] at hm
    rcases hm with hm | rfl
    · have := h4 ms hm
      split <;> split <;> omega
    · rw [hy]
      split <;> split <;> omega
theorem Exk.span {b : Bk} {LL : List (List Int)} {f : List Int → Int} {lo hi : Int} (h : Exk LL f LL.length lo hi) (hL : ∀ ms, ms ∈ LL ↔ IsAsg b ms) : Span b f lo hi := by
  obtain ⟨⟨m1, h1, e1⟩, ⟨m2, h2, e2⟩, _, h4⟩ := h
  rw [List.take_length] at h4
  exact ⟨⟨m1, (hL _).1 h1, e1⟩, ⟨m2, (hL _).1 h2, e2⟩, fun ms hm => h4 ms ((hL _).2 hm)⟩
theorem some_iff {b : Bk} {LL : List (List Int)} (hok : OkBk b) (hL : ∀ ms, ms ∈ LL ↔ IsAsg b ms) : Con b ↔ 0 < LL.length := by
  rw [con_iff hok, List.length_pos_iff_exists_mem]
  exact ⟨fun ⟨ms, h⟩ => ⟨ms, (hL _).2 h⟩, fun ⟨ms, h⟩ => ⟨ms, (hL _).1 h⟩⟩
def gf (ps : List Int) (ts : List Tk) (ms : List Int) : Int := gain ps ts ms
def gi (i : Nat) (ms : List Int) : Int := ms.getD i 0
/-- What Change returns of a consistent book. -/
theorem ch_span {b : Bk} {ps : List Int} {x : Rg} {E : Int} (hck : ckBook b = 0) (hn : ckNums ps b.st.length = 0) (h : ChOut b ps x E) : (¬ Con b ∧ E = 15) ∨ (Con b ∧ (E = 4 ∨ (E = 0 ∧ Span b (gf ps b.ts) x.lo x.hi))) := by
  have e1 : chE b ps = 0 := by unfold chE; rw [hck, hn]; rfl
  rcases h with ⟨q, _⟩ | ⟨_, q, _, e⟩ | ⟨_, q, lo, hi, ht, hx⟩
  · exact absurd e1 q
  · exact .inl ⟨q, e⟩
  · have hpl := okPl_of hn
    have s1 := together_span (okBk_of hck) hpl.nodup hpl.inr ht
    refine .inr ⟨q, ?_⟩
    rcases hx with ⟨_, _, rfl⟩ | ⟨_, rfl, rfl⟩
    · exact .inl rfl
    · exact .inr ⟨rfl, s1⟩

set_option maxRecDepth 100000 in
set_option maxHeartbeats 1000000 in
theorem exhausts9_dark (v1 v2 : Value) (a : Option Addr) (n c : Nat) (w : World) (h : NotTiny w (.agg #[v1, v2])) (hs : (∃ a n c, v1 = .slice a n c) ∧ ∃ a n c, v2 = .slice a n c) :
    Calls Try.prog 9 #[.agg #[v1, v2], .slice a n c] w (Ret (.bool true) w) := by
  obtain ⟨⟨a1, n1, c1, rfl⟩, a2, n2, c2, rfl⟩ := hs
  have H := Lib.hid h
  clear h
  go_enter Try.func9, Try.ntmps9
  go_wp2_with fail
  refine (awake16 _).mono ?_
  rintro e w1 ⟨rfl, hb1⟩
  have HX := Lib.hid ((Box.new w #[.slice a1 n1 c1, .slice a2 n2 c2] 38).later hb1)
  have HB1 := Lib.hid (((Below.refl w.heap.size w).alloc (Nat.le_refl _) (.cells #[.slice a1 n1 c1, .slice a2 n2 c2] 38)).trans (hb1.mono (by simp)))
  clear hb1
  obtain ⟨x0, x1, xf, xz⟩ := HX.out.v2
  go_wp2_with fail
  refine (H.out _ HB1.out).mono ?_
  rintro e w2 ⟨rfl, hb2⟩
  have HB2 := Lib.hid (HB1.out.trans (hb2.mono HB1.out.size))
  clear hb2 x0 x1 xf xz
  go_wp2_with fail
  refine (awake16 _).mono ?_
  rintro e w3 ⟨rfl, hb3⟩
  have HB3 := Lib.hid (HB2.out.trans (hb3.mono HB2.out.size))
  clear hb3
  go_wp2_with fail
  go_ret
  exact ⟨rfl, HB3.out⟩

set_option maxRecDepth 100000 in
set_option maxHeartbeats 1000000 in
theorem exhausts9_out (v1 v2 u : Value) (w : World) (b : Bk) (ps : List Int) (hv : BkR w w.heap.size v1 v2 b) (hu : SlL encI 1 w w.heap.size u ps) (hlt : tinyB b = true) (hn : ckNums ps b.st.length ≠ 0) :
    Calls Try.prog 9 #[.agg #[v1, v2], u] w (Ret (.bool true) w) := by
  have H := Lib.hid (fun (w1 : World) (hb : Below w.heap.size w w1) => tiny39 v1 v2 b w1 (hv.later hb))
  have C30 := Lib.hid (fun (w1 : World) (hb : Below w.heap.size w w1) => ckNums30_long u ps b.st.length w1 (hu.later hb))
  rw [hlt] at H
  obtain ⟨CN, hCN⟩ : ∃ CN, ckNums ps b.st.length = CN := ⟨_, rfl⟩
  rw [hCN] at C30 hn
  obtain ⟨⟨a1, n1, hv1, hl1, hA1⟩, ⟨a2, n2, hv2, hl2, hA2⟩, hids⟩ := hv
  subst hv1 hv2
  obtain ⟨a3, n3, hv3, hl3, hA3⟩ := hu
  subst hv3
  clear hA1 hA2 hA3 hids hlt hCN
  have k0 : (CN == 0) = false := beq_eq_false_iff_ne.2 hn
  have k1 : (CN != 0) = true := bne_iff_ne.2 hn
  go_enter Try.func9, Try.ntmps9
  go_wp2_with fail
  refine (awake16 _).mono ?_
  rintro e w1 ⟨rfl, hb1⟩
  have HX1 := Lib.hid ((Box.new w #[.slice a1 b.st.length n1, .slice a2 b.ts.length n2] 38).later hb1)
  have HB1 := Lib.hid (((Below.refl w.heap.size w).alloc (Nat.le_refl _) (.cells #[.slice a1 b.st.length n1, .slice a2 b.ts.length n2] 38)).trans (hb1.mono (by simp)))
  clear hb1
  obtain ⟨x0, x1, xf, xz⟩ := HX1.out.v2
  go_wp2_with fail
  refine (H.out _ HB1.out).mono ?_
  rintro e w2 ⟨rfl, hb2⟩
  have HX2 := Lib.hid (HX1.out.later hb2)
  have HB2 := Lib.hid (HB1.out.trans (hb2.mono HB1.out.size))
  clear hb2 x0 x1 xf xz HX1 HB1
  obtain ⟨x0, x1, xf, xz⟩ := HX2.out.v2
  go_wp2_with fail
  refine (C30.out _ HB2.out).mono ?_
  rintro e w3 ⟨rfl, hb3⟩
  have HX3 := Lib.hid (HX2.out.later hb3)
  have HB3 := Lib.hid (HB2.out.trans (hb3.mono HB2.out.size))
  clear hb3 x0 x1 xf xz HX2 HB2
  obtain ⟨x0, x1, xf, xz⟩ := HX3.out.v2
  go_wp2_with fail
  refine (awake16 _).mono ?_
  rintro e w4 ⟨rfl, hb4⟩
  have HX4 := Lib.hid (HX3.out.later hb4)
  have HB4 := Lib.hid (HB3.out.trans (hb4.mono HB3.out.size))
  clear hb4 x0 x1 xf xz HX3 HB3
  obtain ⟨x0, x1, xf, xz⟩ := HX4.out.v2
  go_wp2_with fail
  go_ret
  exact ⟨rfl, HB4.out⟩

set_option maxRecDepth 100000 in
set_option maxHeartbeats 1000000 in
theorem exhausts9 (v1 v2 u : Value) (w : World) (b : Bk) (ps : List Int) (hv : BkR w w.heap.size v1 v2 b) (hu : Sl encI 1 w w.heap.size u ps) (hlt : tinyB b = true) (hn : ckNums ps b.st.length = 0) :
    Calls Try.prog 9 #[.agg #[v1, v2], u] w (Ret (.bool true) w) := by
  have hl3 : (ckBook b = 0 ∧ b.st.length ≤ 4 ∧ b.ts.length ≤ 4) ∧ ∀ t ∈ b.ts, t.m.hi - t.m.lo ≤ 4 := by simpa [tinyB] using hlt
  obtain ⟨⟨hck, h6, h8⟩, h5⟩ := hl3
  have hok := okBk_of hck
  have H := Lib.hid (fun (w1 : World) (hb : Below w.heap.size w w1) => tiny39 v1 v2 b w1 (hv.later hb))
  have C30 := Lib.hid (fun (w1 : World) (hb : Below w.heap.size w w1) => (hn ▸ ckNums30 u ps b.st.length w1 (hu.later hb) : Calls Try.prog 30 #[u, .int .i64 b.st.length] w1 (Ret (.int .i64 0) w1)))
  have C40 := Lib.hid (fun (w1 : World) (hb : Below w.heap.size w w1) => all40 w1 v1 v2 b (hv.later hb) hck h8 h5)
  have C37 := Lib.hid (fun (w1 : World) (hb : Below w.heap.size w w1) => isCon37 w1 v1 v2 b (hv.later hb))
  have C35 := Lib.hid (fun (w1 : World) (hb : Below w.heap.size w w1) => tight_p w1 v1 v2 b (hv.later hb) hck)
  have C29 := Lib.hid (fun (w1 : World) (hb : Below w.heap.size w w1) => change_p w1 v1 v2 u b ps (hv.later hb) (hu.later hb))
  have C41 := Lib.hid (fun (w1 : World) (hb : Below w.heap.size w w1) (q : Value) (ms : List Int) (h : Sl encI 1 w1 w1.heap.size q ms) (ha : IsAsg b ms) => gain41 v1 v2 q u b ms ps w1 (hv.later hb) h (hu.later hb) (by rw [ha.len]; exact Nat.le_refl _) (by omega) (fun i h1 h2 => by
    have h3 := ha.tk i h2
    have h4 := hok.tk b.ts[i] (List.getElem_mem h2)
    unfold Rg.has at h3
    omega))
  rw [hlt] at H
  have ECK := Lib.hid hck
  have EOK := Lib.hid hok
  have ECN := Lib.hid hn
  obtain ⟨⟨a1, n1, hv1, hl1, hA1⟩, ⟨a2, n2, hv2, hl2, hA2⟩, hids⟩ := hv
  subst hv1 hv2
  obtain ⟨a3, n3, hv3, hl3, hA3⟩ := hu
  subst hv3
  clear hA1 hA2 hA3 hids hlt hck hok hn h5
  obtain ⟨m, hm⟩ : ∃ m, b.ts.length = m := ⟨_, rfl⟩
  rw [hm] at H C40 C37 C35 C29 C41 ⊢
  rw [hm] at hl2 h8
  have HM := Lib.hid hm
  clear hm
  go_enter Try.func9, Try.ntmps9
  go_wp2_with fail
  refine (awake16 _).mono ?_
  rintro e w1 ⟨rfl, hb1⟩
  have HX1 := Lib.hid ((Box.new w #[.slice a1 b.st.length n1, .slice a2 m n2] 38).later hb1)
  have HB1 := Lib.hid (((Below.refl w.heap.size w).alloc (Nat.le_refl _) (.cells #[.slice a1 b.st.length n1, .slice a2 m n2] 38)).trans (hb1.mono (by simp)))
  clear hb1
  obtain ⟨x0, x1, xf, xz⟩ := HX1.out.v2
  go_wp2_with fail
  refine (H.out _ HB1.out).mono ?_
  rintro e w2 ⟨rfl, hb2⟩
  have HX2 := Lib.hid (HX1.out.later hb2)
  have HB2 := Lib.hid (HB1.out.trans (hb2.mono HB1.out.size))
  clear hb2 x0 x1 xf xz HX1 HB1
  obtain ⟨x0, x1, xf, xz⟩ := HX2.out.v2
  go_wp2_with fail
  refine (C30.out _ HB2.out).mono ?_
  rintro e w3 ⟨rfl, hb3⟩
  have HX3 := Lib.hid (HX2.out.later hb3)
  have HB3 := Lib.hid (HB2.out.trans (hb3.mono HB2.out.size))
  clear hb3 x0 x1 xf xz HX2 HB2
  obtain ⟨x0, x1, xf, xz⟩ := HX3.out.v2
  go_wp2_with fail
  refine (C40.out _ HB3.out).mono ?_
  rintro e w4 ⟨v, HH, LL, rfl, hb4, hsv, hhl, hin, hmem, h625⟩
  have HX4 := Lib.hid (HX3.out.later hb4)
  have HB4 := Lib.hid (HB3.out.trans (hb4.mono HB3.out.size))
  clear hb4 x0 x1 xf xz HX3 HB3
  obtain ⟨av, cv, hvv, hvl, hvA⟩ := hsv
  subst hvv
  obtain ⟨nL, hnL⟩ : ∃ n, LL.length = n := ⟨_, rfl⟩
  have hHn : HH.length = nL := by omega
  have HMEM := Lib.hid hmem
  have HNL := Lib.hid hnL
  have HHN := Lib.hid hHn
  have HIN := Lib.hid hin
  have HVA := Lib.hid hvA
  have HCON := Lib.hid (some_iff EOK.out hmem)
  rw [hHn]
  have hn625 : nL ≤ 625 := by omega
  clear hmem hnL hHn hin hvA h625 hhl hvl
  have HA4 := Lib.hid (Below.refl w4.heap.size w4)
  obtain ⟨x0, x1, xf, xz⟩ := HX4.out.v2
  go_wp2_with fail
  refine (C37.out _ HB4.out).mono ?_
  rintro e w5 ⟨ok, rfl, hb5, hok⟩
  rw [ECK.out]
  have HOK := Lib.hid (show ok = true ↔ 0 < nL by rw [hok, HCON.out, HNL.out]; exact ⟨fun h => h.2, fun h => ⟨ECK.out, h⟩⟩)
  clear hok
  have HX5 := Lib.hid (HX4.out.later hb5)
  have HB5 := Lib.hid (HB4.out.trans (hb5.mono HB4.out.size))
  have HA5 := Lib.hid (HA4.out.trans (hb5.mono HA4.out.size))
  clear hb5 x0 x1 xf xz HX4 HB4 HA4
  obtain ⟨x0, x1, xf, xz⟩ := HX5.out.v2
  go_wp2_with fail
  refine (C35.out _ HB5.out).mono ?_
  rintro e w6 ⟨hb6, hor⟩
  have HX6 := Lib.hid (HX5.out.later hb6)
  have HB6 := Lib.hid (HB5.out.trans (hb6.mono HB5.out.size))
  have HA6 := Lib.hid (HA5.out.trans (hb6.mono HA5.out.size))
  clear hb6 x0 x1 xf xz HX5 HB5 HA5
  obtain ⟨x0, x1, xf, xz⟩ := HX6.out.v2
  rcases hor with ⟨hnc, rfl⟩ | ⟨hc, at_, ct_, rs, rfl, hst, hts⟩
  · have HNC := Lib.hid hnc
    have hz : nL = 0 := by
      rcases Nat.eq_zero_or_pos nL with h | h
      · exact h
      · exact absurd (HCON.out.2 (by rw [HNL.out]; exact h)) hnc
    subst hz
    have hokf : ok = false := by
      cases ok with
      | false => rfl
      | true => exact absurd (HOK.out.1 rfl) (by omega)
    subst hokf
    clear hnc
    go_wp2_with fail
    refine (C29.out _ HB6.out).mono ?_
    rintro e w7 ⟨x, E, rfl, hcx, hb7⟩
    have HCX := Lib.hid (ch_span ECK.out ECN.out hcx)
    clear hcx
    have HX7 := Lib.hid (HX6.out.later hb7)
    have HB7 := Lib.hid (HB6.out.trans (hb7.mono HB6.out.size))
    have HA7 := Lib.hid (HA6.out.trans (hb7.mono HA6.out.size))
    clear hb7 x0 x1 xf xz HX6 HB6 HA6
    obtain ⟨x0, x1, xf, xz⟩ := HX7.out.v2
    have hba : Below w7.heap.size w7 (w7.alloc (.cells #[.int .i64 x.lo, .int .i64 x.hi] 24)) := (Below.refl _ _).alloc (Nat.le_refl _) _
    have HP8 := Lib.hid (Box.new w7 #[.int .i64 x.lo, .int .i64 x.hi] 24)
    have HX8 := Lib.hid (HX7.out.later hba)
    have HB8 := Lib.hid (HB7.out.trans (hba.mono HB7.out.size))
    have HA8 := Lib.hid (HA7.out.trans (hba.mono HA7.out.size))
    have hE : E = 15 := by
      rcases HCX.out with ⟨_, h⟩ | ⟨h, _⟩
      · exact h
      · exact absurd h HNC.out
    subst hE
    go_wp2_with fail
    go_ret
    exact ⟨rfl, HB8.out⟩
  · rw [HM.out] at hst ⊢
    have HC := Lib.hid hc
    have HT6 := Lib.hid hst
    have HTS := Lib.hid hts
    have HRL := Lib.hid (show rs.length = m by rw [hts.len, HM.out])
    clear hst hts
    have hpos : 0 < nL := by have := HCON.out.1 hc; rw [HNL.out] at this; exact this
    have hokt : ok = true := HOK.out.2 hpos
    subst hokt
    have d0 : decide ((0 : Int) < (nL : Int)) = true := decide_eq_true (by omega)
    clear hc
    go_wp2_with fail
    refine (C29.out _ HB6.out).mono ?_
    rintro e w7 ⟨x, E, rfl, hcx, hb7⟩
    have HCX := Lib.hid (ch_span ECK.out ECN.out hcx)
    clear hcx
    have HX7 := Lib.hid (HX6.out.later hb7)
    have HB7 := Lib.hid (HB6.out.trans (hb7.mono HB6.out.size))
    have HT7 := Lib.hid (HT6.out.later hb7)
    have HA7 := Lib.hid (HA6.out.trans (hb7.mono HA6.out.size))
    clear hb7 x0 x1 xf xz HX6 HB6 HT6 HA6
    obtain ⟨x0, x1, xf, xz⟩ := HX7.out.v2
    have hba : Below w7.heap.size w7 (w7.alloc (.cells #[.int .i64 x.lo, .int .i64 x.hi] 24)) := (Below.refl _ _).alloc (Nat.le_refl _) _
    have HP8 := Lib.hid (Box.new w7 #[.int .i64 x.lo, .int .i64 x.hi] 24)
    have HX8 := Lib.hid (HX7.out.later hba)
    have HB8 := Lib.hid (HB7.out.trans (hba.mono HB7.out.size))
    have HT8 := Lib.hid (HT7.out.later hba)
    have HA8 := Lib.hid (HA7.out.trans (hba.mono HA7.out.size))
    have hE : E = 4 ∨ (E = 0 ∧ Span b (gf ps b.ts) x.lo x.hi) := by
      rcases HCX.out with ⟨h, _⟩ | ⟨_, h⟩
      · exact absurd HC.out h
      · exact h
    have HSP := Lib.hid (show E = 0 → Span b (gf ps b.ts) x.lo x.hi from fun h => by
      rcases hE with rfl | ⟨_, h2⟩
      · cases h
      · exact h2)
    have hE2 : E = 4 ∨ E = 0 := hE.imp id fun h => h.1
    clear hE HCX
    have HRD := Lib.hid (fun (k : Nat) (hk : k < nL) => show ∃ bv ov ha hn hc, av = some ⟨bv, ov, none⟩ ∧ bv < w4.heap.size ∧ (∀ w', Below w4.heap.size w4 w' → w'.cell? ⟨bv, ov + k, none⟩ = some (.slice ha hn hc)) ∧ Sl encI 1 w4 w4.heap.size (.slice ha hn hc) (LL[k]'(by rw [HNL.out]; exact hk)) ∧ IsAsg b (LL[k]'(by rw [HNL.out]; exact hk)) from by
      obtain ⟨bv, ov, e, h1, h2⟩ := HVA.out (by rw [HHN.out]; omega)
      have hkh : k < HH.length := by rw [HHN.out]; exact hk
      obtain ⟨hd, hhd⟩ : ∃ h, HH[k]'hkh = h := ⟨_, rfl⟩
      have h3 := HIN.out k hkh (by rw [HNL.out]; exact hk)
      have h4 := h2 k hkh
      rw [hhd] at h3 h4
      obtain ⟨ha, hn, hc⟩ := hd
      refine ⟨bv, ov, ha, hn, hc, e, h1, fun w' hb => ?_, h3, (HMEM.out _).1 (List.getElem_mem _)⟩
      have := (h4.below hb h1).c1
      rwa [Nat.mul_one] at this)
    clear HIN HVA
    rcases hE2 with rfl | rfl
    · go_wp2_with fail
      generalize w7.alloc (.cells #[.int .i64 x.lo, .int .i64 x.hi] 24) = w8 at *
      generalize w7.heap.size = BC at *
      clear hba x0 x1 xf xz HX7 HB7 HT7 HA7
      obtain ⟨x0, x1, xf, xz⟩ := HX8.out.v2
      obtain ⟨bv, ov, ha0, hn0, hc0, hav, hbv, hcl, hsl, hasg⟩ := HRD.out 0 hpos
      subst hav
      have c0 := hcl w8 HA8.out
      simp only [Nat.add_zero] at c0
      have hbz : bv < w8.heap.size := by have := HA8.out.size; omega
      have HBX := Lib.hid (fun (Y : Later w8) (X : Later2 Y) => HB8.out.trans ((Y.h.trans (X.h.mono Y.h.size)).mono HB8.out.size))
      have HSX := Lib.hid (fun (Y : Later w8) (X : Later2 Y) => (hsl.later HA8.out).later (Y.h.trans (X.h.mono Y.h.size)))
      have HL0 := Lib.hid (show 0 < LL.length by rw [HNL.out]; exact hpos)
      obtain ⟨L0, hL0⟩ : ∃ l, LL[0]'HL0.out = l := ⟨_, rfl⟩
      rw [hL0] at HSX hasg
      have HL00 := Lib.hid hL0
      have HAS0 := Lib.hid hasg
      clear hcl hsl hasg hL0
      obtain ⟨G0, hG0⟩ : ∃ g, gain ps b.ts L0 = g := ⟨_, rfl⟩
      have HG0 := Lib.hid hG0
      have HC0 := Lib.hid (fun (Y : Later w8) (X : Later2 Y) => show Calls Try.prog 41 #[.agg #[.slice a1 b.st.length n1, .slice a2 m n2], .slice ha0 hn0 hc0, .slice a3 ps.length n3] X.w (Ret (.int .i64 G0) X.w) from hG0 ▸ C41.out X.w (HBX.out Y X) _ L0 (HSX.out Y X) HAS0.out)
      clear hG0
      refine wp_region_flowA 14 13 _ 24 (by kernel_rfl) (by kernel_rfl) rfl ?_
      apply Exists.intro
      refine ⟨fun Y => ?_, ?_⟩
      simp only [headsOf, List.take_succ_cons, List.drop_succ_cons, List.take_zero, List.drop_zero, Nat.reduceSub, List.cons_append, List.nil_append]
      repeat go_big_quiet_step ((go_at_call 41; exact Calls.later2 (HC0.out _ _)))
      exact wpQuiet_nil rfl
      apply Exists.intro
      refine ⟨fun w => ?_, fun g w2 hb2 hg2 hc2 => ?_⟩
      go_simp
      first | rfl | (go_ints; rfl)
      simp only [Act.put, List.setIfInBounds_toArray, List.set_cons_succ, List.set_cons_zero, List.drop_succ_cons, List.drop_zero]
      have hq2 : Box w2 g 24 [.int .i64 0, .int .i64 0] := hc2
      clear hc2 HC0 HBX HSX x0 x1 xf xz c0
      obtain ⟨q0, q1, qf, qz⟩ := hq2.v2
      have HQ := Lib.hid ((hq2.set 0 (.int .i64 G0)).set 1 (.int .i64 G0))
      have HBW := Lib.hid ((hb2.setCell (p := ⟨g, 0, none⟩) hg2 (.int .i64 G0)).setCell (p := ⟨g, 1, none⟩) hg2 (.int .i64 G0))
      have HGE := Lib.hid hg2
      clear hq2 hb2 hg2
      go_wp2_with fail
      generalize (w2.setCell ⟨g, 0, none⟩ (.int .i64 G0)).setCell ⟨g, 1, none⟩ (.int .i64 G0) = W3 at *
      clear q0 q1 qf qz
      have HEX0 : Hid (Exk LL (gf ps b.ts) 0 G0 G0) := Lib.hid (by
        have h := Exk.start (gf ps b.ts) HL0.out
        rw [show gf ps b.ts (LL[0]'HL0.out) = G0 by rw [HL00.out]; exact HG0.out] at h
        exact h)
      go_loopw [13] (fun j wr => ∃ (k : Nat) (lo hi : Int), k ≤ nL ∧ j = .int .i64 k ∧ Box wr g 24 [.int .i64 lo, .int .i64 hi] ∧ Below w8.heap.size w8 wr ∧ Exk LL (gf ps b.ts) k lo hi) (fun j _ => nL - (intOf j).toNat)
      case atStart => exact ⟨0, _, _, by omega, rfl, HQ.out, HBW.out, HEX0.out⟩
      case round =>
        clear HQ HBW HEX0
        obtain ⟨k, lo, hi, hk, rfl, hq, hbw, hex⟩ := hrel
        have HXr := Lib.hid (HX8.out.later hbw)
        have HBr := Lib.hid (HB8.out.trans (hbw.mono HB8.out.size))
        have HAr := Lib.hid (HA8.out.trans (hbw.mono HA8.out.size))
        have HBW := Lib.hid hbw
        have HEX := Lib.hid hex
        have HQ := Lib.hid hq
        clear hbw hex hq
        obtain ⟨x0, x1, xf, xz⟩ := HXr.out.v2
        by_cases hlt : k < nL
        · obtain ⟨bv', ov', ha, hn, hc, hav, hbv', hcl, hsl, hasg⟩ := HRD.out k hlt
          cases hav
          have c0 := hcl wr HAr.out
          have hbzr : bv < wr.heap.size := by have := HAr.out.size; omega
          have HKL := Lib.hid (show k < LL.length by rw [HNL.out]; exact hlt)
          obtain ⟨Lk, hLk⟩ : ∃ l, LL[k]'HKL.out = l := ⟨_, rfl⟩
          rw [hLk] at hsl hasg
          have HLK := Lib.hid hLk
          have HSL := Lib.hid (hsl.later HAr.out)
          have HAS := Lib.hid hasg
          clear hcl hsl hasg hLk
          go_wp2_with fail
          refine wp_region_head_drew 6 (by kernel_rfl) (by kernel_rfl) ?_
          simp only [List.take_succ_cons, List.take_zero, List.drop_succ_cons, List.drop_zero]
          repeat go_big_quiet_step (fail)
          refine wpQuiet_nil ?_
          rintro _ ⟨nq, rfl⟩
          clear c0
          go_wp2_with fail
          refine (C41.out _ (below_drewN HBr.out nq) _ Lk (HSL.out.later (below_drewN (Below.refl _ _) nq)) HAS.out).mono ?_
          rintro e w3 ⟨rfl, hb3'⟩
          have hb3 : Below wr.heap.size wr w3 := (below_drewN (Below.refl _ _) nq).trans hb3'
          have HQ3 := Lib.hid (HQ.out.later hb3)
          have HBW3 := Lib.hid (HBW.out.trans (hb3.mono HBW.out.size))
          clear hb3 hb3' x0 x1 xf xz
          obtain ⟨q0, q1, qf, qz⟩ := HQ3.out.v2
          obtain ⟨y, hy⟩ : ∃ y, gain ps b.ts Lk = y := ⟨_, rfl⟩
          have hst := HEX.out.step HKL.out (y := y) (by rw [HLK.out]; exact hy)
          rw [hy]
          obtain ⟨nlo, hnlo⟩ : ∃ x, (if y < lo then y else lo) = x := ⟨_, rfl⟩
          obtain ⟨nhi, hnhi⟩ : ∃ x, (if hi < y then y else hi) = x := ⟨_, rfl⟩
          rw [hnlo, hnhi] at hst
          have HST := Lib.hid hst
          clear hst hy
          go_wp2_with fail
          go_roundw
          case rel => exact ⟨k + 1, nlo, nhi, by omega, by go_num, (HQ3.out.set 0 _).set 1 _, (HBW3.out.setCell (p := ⟨g, 0, none⟩) HGE.out _).setCell (p := ⟨g, 1, none⟩) HGE.out _, HST.out⟩
          case measure => simp [intOf]; omega
        · obtain rfl : nL = k := by omega
          have hsp : Span b (gf ps b.ts) lo hi := Exk.span (by have := HEX.out; rw [← HNL.out] at this; exact this) HMEM.out
          have HPr := Lib.hid (HP8.out.later HBW.out)
          have HTr := Lib.hid (HT8.out.later HBW.out)
          obtain ⟨q0, q1, qf, qz⟩ := HQ.out.v2
          obtain ⟨p0, p1, pf, pz⟩ := HPr.out.v2
          clear hsp
          go_wp2_with fail
          clear q0 q1 qf qz p0 p1 pf pz x0 x1 xf xz
          have HBf := Lib.hid HBr.out
          obtain ⟨U3, hU3⟩ : ∃ U3 : World, U3 = wr := ⟨_, rfl⟩
          subst hU3
          go_loopw [15] (fun j wr => ∃ i : Nat, i ≤ m ∧ j = .int .i64 i ∧ Below U3.heap.size U3 wr) (fun j _ => m - (intOf j).toNat)
          case atStart => exact ⟨0, by omega, rfl, Below.refl _ _⟩
          case round =>
            clear HPr
            obtain ⟨i, hi', rfl, hb4⟩ := hrel
            have HB4 := Lib.hid hb4
            by_cases hlt4 : i < m
            · have HRE := Lib.hid (fun (k : Nat) (hk : k < nL) => show ∃ bv' ov' bk ok hc, (some ⟨bv, ov, none⟩ : Option Addr) = some ⟨bv', ov', none⟩ ∧ bv' < w4.heap.size ∧ bk < w4.heap.size ∧ ∀ w', Below U3.heap.size U3 w' → w'.cell? ⟨bv', ov' + k, none⟩ = some (.slice (some ⟨bk, ok, none⟩) m hc) ∧ w'.cell? ⟨bk, ok + i, none⟩ = some (.int .i64 (gi i (LL[k]'(by rw [HNL.out]; exact hk)))) from by
                obtain ⟨bv', ov', ha, hn, hc, hav, hbv', hcl, hsl, hasg⟩ := HRD.out k hk
                have hlm := hasg.len
                rw [HM.out] at hlm
                obtain ⟨a', c', e, _, hA⟩ := hsl
                injection e with e1 e2 e3
                subst e1 e2 e3
                obtain ⟨bk, ok, e, hbk, hc2⟩ := hA (by omega)
                subst e
                rw [hlm] at hcl
                refine ⟨bv', ov', bk, ok, _, hav, hbv', hbk, fun w' hb => ⟨hcl w' (HAr.out.trans (hb.mono HAr.out.size)), ?_⟩⟩
                have h3 := ((hc2 i (by omega)).below (HAr.out.trans (hb.mono HAr.out.size)) hbk).c1
                rw [Nat.mul_one] at h3
                rw [h3]
                unfold gi
                rw [getD_at _ i (by omega)])
              obtain ⟨bv0, ov0, bk, ok0, hcc, hav, hbv0, hbk, hce⟩ := HRE.out 0 hpos
              cases hav
              obtain ⟨c0, c1⟩ := hce wr hb4
              simp only [Nat.add_zero] at c0
              have hz1 : bv < wr.heap.size := by have := HAr.out.size; have := hb4.size; omega
              have hz2 : bk < wr.heap.size := by have := HAr.out.size; have := hb4.size; omega
              have HE0 := Lib.hid (Exk.start (gi i) HL0.out)
              generalize gi i (LL[0]'HL0.out) = y0 at *
              clear hce hb4
              go_wp2_with fail
              go_quiet (fail)
              clear c0 c1
              go_wp2_with fail
              obtain ⟨U4, hU4⟩ : ∃ U4 : World, U4 = wr := ⟨_, rfl⟩
              subst hU4
              go_loopw [18, 16, 17] (fun j a c wr => ∃ (k : Nat) (lo hi : Int), k ≤ nL ∧ j = .int .i64 k ∧ a = .int .i64 lo ∧ c = .int .i64 hi ∧ Below U3.heap.size U3 wr ∧ Exk LL (gi i) k lo hi) (fun j _ _ _ => nL - (intOf j).toNat)
              case atStart => exact ⟨0, _, _, by omega, rfl, rfl, rfl, below_drewN HB4.out _, HE0.out⟩
              case round =>
                clear HE0
                obtain ⟨k, lo5, hi5, hk5, rfl, rfl, rfl, hb5, hex⟩ := hrel
                have HB5 := Lib.hid hb5
                have HEX := Lib.hid hex
                by_cases hlt5 : k < nL
                · have HKL := Lib.hid (show k < LL.length by rw [HNL.out]; exact hlt5)
                  obtain ⟨bv1, ov1, bk1, ok1, hcc1, hav, hbv1, hbk1, hce⟩ := HRE.out k hlt5
                  cases hav
                  obtain ⟨c0, c1⟩ := hce _ hb5
                  have hz3 : bk1 < wr.heap.size := by have := HAr.out.size; have := hb5.size; omega
                  have hz4 : bv < wr.heap.size := by have := HAr.out.size; have := hb5.size; omega
                  obtain ⟨y, hy⟩ : ∃ y, gi i (LL[k]'HKL.out) = y := ⟨_, rfl⟩
                  rw [hy] at c1
                  have hst := hex.step HKL.out hy
                  obtain ⟨nlo, hnlo⟩ : ∃ x, (if y < lo5 then y else lo5) = x := ⟨_, rfl⟩
                  obtain ⟨nhi, hnhi⟩ : ∃ x, (if hi5 < y then y else hi5) = x := ⟨_, rfl⟩
                  rw [hnlo, hnhi] at hst
                  have HST := Lib.hid hst
                  clear hst hy hce hex hb5
                  go_wp2_with fail
                  go_quiet (fail)
                  go_wp2_with fail
                  go_roundw
                  case rel => exact ⟨k + 1, nlo, nhi, by omega, by go_num, rfl, rfl, below_drewN HB5.out _, HST.out⟩
                  case measure => simp [intOf]; omega
                · obtain rfl : nL = k := by omega
                  have hsp5 : Span b (gi i) lo5 hi5 := Exk.span (by rw [← HNL.out] at hex; exact hex) HMEM.out
                  have hir : i < rs.length := by rw [HRL.out]; exact hlt4
                  obtain ⟨e1, e2⟩ := (HTS.out.sp i hir).unique hsp5
                  obtain ⟨_, _, f1, _, hA⟩ := HTr.out.later hb5
                  injection f1 with f1 f2 f3
                  subst f1 f3
                  clear f2
                  obtain ⟨bt, ot, hat, hbt, htc⟩ := hA (by omega)
                  subst hat
                  obtain ⟨r0, r1⟩ := (htc i hir).c2
                  rw [e1] at r0
                  rw [e2] at r1
                  have k1 : (lo5 == lo5) = true := beq_self_eq_true _
                  have k2 : (hi5 == hi5) = true := beq_self_eq_true _
                  clear htc hA e1 e2 hsp5 hex hb5
                  go_wp2_with fail
                  go_roundw
                  case rel => exact ⟨i + 1, by omega, by go_num, HB5.out⟩
                  case measure => simp [intOf]; omega
            · obtain rfl : m = i := by omega
              clear hb4
              go_wp2_with fail
              go_ret
              exact ⟨rfl, HBf.out.trans (HB4.out.mono HBf.out.size)⟩
    · go_wp2_with fail
      generalize w7.alloc (.cells #[.int .i64 x.lo, .int .i64 x.hi] 24) = w8 at *
      generalize w7.heap.size = BC at *
      clear hba x0 x1 xf xz HX7 HB7 HT7 HA7
      obtain ⟨x0, x1, xf, xz⟩ := HX8.out.v2
      obtain ⟨bv, ov, ha0, hn0, hc0, hav, hbv, hcl, hsl, hasg⟩ := HRD.out 0 hpos
      subst hav
      have c0 := hcl w8 HA8.out
      simp only [Nat.add_zero] at c0
      have hbz : bv < w8.heap.size := by have := HA8.out.size; omega
      have HBX := Lib.hid (fun (Y : Later w8) (X : Later2 Y) => HB8.out.trans ((Y.h.trans (X.h.mono Y.h.size)).mono HB8.out.size))
      have HSX := Lib.hid (fun (Y : Later w8) (X : Later2 Y) => (hsl.later HA8.out).later (Y.h.trans (X.h.mono Y.h.size)))
      have HL0 := Lib.hid (show 0 < LL.length by rw [HNL.out]; exact hpos)
      obtain ⟨L0, hL0⟩ : ∃ l, LL[0]'HL0.out = l := ⟨_, rfl⟩
      rw [hL0] at HSX hasg
      have HL00 := Lib.hid hL0
      have HAS0 := Lib.hid hasg
      clear hcl hsl hasg hL0
      obtain ⟨G0, hG0⟩ : ∃ g, gain ps b.ts L0 = g := ⟨_, rfl⟩
      have HG0 := Lib.hid hG0
      have HC0 := Lib.hid (fun (Y : Later w8) (X : Later2 Y) => show Calls Try.prog 41 #[.agg #[.slice a1 b.st.length n1, .slice a2 m n2], .slice ha0 hn0 hc0, .slice a3 ps.length n3] X.w (Ret (.int .i64 G0) X.w) from hG0 ▸ C41.out X.w (HBX.out Y X) _ L0 (HSX.out Y X) HAS0.out)
      clear hG0
      refine wp_region_flowA 14 13 _ 24 (by kernel_rfl) (by kernel_rfl) rfl ?_
      apply Exists.intro
      refine ⟨fun Y => ?_, ?_⟩
      simp only [headsOf, List.take_succ_cons, List.drop_succ_cons, List.take_zero, List.drop_zero, Nat.reduceSub, List.cons_append, List.nil_append]
      repeat go_big_quiet_step ((go_at_call 41; exact Calls.later2 (HC0.out _ _)))
      exact wpQuiet_nil rfl
      apply Exists.intro
      refine ⟨fun w => ?_, fun g w2 hb2 hg2 hc2 => ?_⟩
      go_simp
      first | rfl | (go_ints; rfl)
      simp only [Act.put, List.setIfInBounds_toArray, List.set_cons_succ, List.set_cons_zero, List.drop_succ_cons, List.drop_zero]
      have hq2 : Box w2 g 24 [.int .i64 0, .int .i64 0] := hc2
      clear hc2 HC0 HBX HSX x0 x1 xf xz c0
      obtain ⟨q0, q1, qf, qz⟩ := hq2.v2
      have HQ := Lib.hid ((hq2.set 0 (.int .i64 G0)).set 1 (.int .i64 G0))
      have HBW := Lib.hid ((hb2.setCell (p := ⟨g, 0, none⟩) hg2 (.int .i64 G0)).setCell (p := ⟨g, 1, none⟩) hg2 (.int .i64 G0))
      have HGE := Lib.hid hg2
      clear hq2 hb2 hg2
      go_wp2_with fail
      generalize (w2.setCell ⟨g, 0, none⟩ (.int .i64 G0)).setCell ⟨g, 1, none⟩ (.int .i64 G0) = W3 at *
      clear q0 q1 qf qz
      have HEX0 : Hid (Exk LL (gf ps b.ts) 0 G0 G0) := Lib.hid (by
        have h := Exk.start (gf ps b.ts) HL0.out
        rw [show gf ps b.ts (LL[0]'HL0.out) = G0 by rw [HL00.out]; exact HG0.out] at h
        exact h)
      go_loopw [13] (fun j wr => ∃ (k : Nat) (lo hi : Int), k ≤ nL ∧ j = .int .i64 k ∧ Box wr g 24 [.int .i64 lo, .int .i64 hi] ∧ Below w8.heap.size w8 wr ∧ Exk LL (gf ps b.ts) k lo hi) (fun j _ => nL - (intOf j).toNat)
      case atStart => exact ⟨0, _, _, by omega, rfl, HQ.out, HBW.out, HEX0.out⟩
      case round =>
        clear HQ HBW HEX0
        obtain ⟨k, lo, hi, hk, rfl, hq, hbw, hex⟩ := hrel
        have HXr := Lib.hid (HX8.out.later hbw)
        have HBr := Lib.hid (HB8.out.trans (hbw.mono HB8.out.size))
        have HAr := Lib.hid (HA8.out.trans (hbw.mono HA8.out.size))
        have HBW := Lib.hid hbw
        have HEX := Lib.hid hex
        have HQ := Lib.hid hq
        clear hbw hex hq
        obtain ⟨x0, x1, xf, xz⟩ := HXr.out.v2
        by_cases hlt : k < nL
        · obtain ⟨bv', ov', ha, hn, hc, hav, hbv', hcl, hsl, hasg⟩ := HRD.out k hlt
          cases hav
          have c0 := hcl wr HAr.out
          have hbzr : bv < wr.heap.size := by have := HAr.out.size; omega
          have HKL := Lib.hid (show k < LL.length by rw [HNL.out]; exact hlt)
          obtain ⟨Lk, hLk⟩ : ∃ l, LL[k]'HKL.out = l := ⟨_, rfl⟩
          rw [hLk] at hsl hasg
          have HLK := Lib.hid hLk
          have HSL := Lib.hid (hsl.later HAr.out)
          have HAS := Lib.hid hasg
          clear hcl hsl hasg hLk
          go_wp2_with fail
          refine wp_region_head_drew 6 (by kernel_rfl) (by kernel_rfl) ?_
          simp only [List.take_succ_cons, List.take_zero, List.drop_succ_cons, List.drop_zero]
          repeat go_big_quiet_step (fail)
          refine wpQuiet_nil ?_
          rintro _ ⟨nq, rfl⟩
          clear c0
          go_wp2_with fail
          refine (C41.out _ (below_drewN HBr.out nq) _ Lk (HSL.out.later (below_drewN (Below.refl _ _) nq)) HAS.out).mono ?_
          rintro e w3 ⟨rfl, hb3'⟩
          have hb3 : Below wr.heap.size wr w3 := (below_drewN (Below.refl _ _) nq).trans hb3'
          have HQ3 := Lib.hid (HQ.out.later hb3)
          have HBW3 := Lib.hid (HBW.out.trans (hb3.mono HBW.out.size))
          clear hb3 hb3' x0 x1 xf xz
          obtain ⟨q0, q1, qf, qz⟩ := HQ3.out.v2
          obtain ⟨y, hy⟩ : ∃ y, gain ps b.ts Lk = y := ⟨_, rfl⟩
          have hst := HEX.out.step HKL.out (y := y) (by rw [HLK.out]; exact hy)
          rw [hy]
          obtain ⟨nlo, hnlo⟩ : ∃ x, (if y < lo then y else lo) = x := ⟨_, rfl⟩
          obtain ⟨nhi, hnhi⟩ : ∃ x, (if hi < y then y else hi) = x := ⟨_, rfl⟩
          rw [hnlo, hnhi] at hst
          have HST := Lib.hid hst
          clear hst hy
          go_wp2_with fail
          go_roundw
          case rel => exact ⟨k + 1, nlo, nhi, by omega, by go_num, (HQ3.out.set 0 _).set 1 _, (HBW3.out.setCell (p := ⟨g, 0, none⟩) HGE.out _).setCell (p := ⟨g, 1, none⟩) HGE.out _, HST.out⟩
          case measure => simp [intOf]; omega
        · obtain rfl : nL = k := by omega
          have hsp : Span b (gf ps b.ts) lo hi := Exk.span (by have := HEX.out; rw [← HNL.out] at this; exact this) HMEM.out
          have HPr := Lib.hid (HP8.out.later HBW.out)
          have HTr := Lib.hid (HT8.out.later HBW.out)
          obtain ⟨q0, q1, qf, qz⟩ := HQ.out.v2
          obtain ⟨p0, p1, pf, pz⟩ := HPr.out.v2
          obtain ⟨e1, e2⟩ := (HSP.out (by trivial)).unique hsp
          rw [e1] at p0
          rw [e2] at p1
          clear hsp e1 e2
          have k1 : (lo == lo) = true := beq_self_eq_true _
          have k2 : (hi == hi) = true := beq_self_eq_true _
          go_wp2_with fail
          clear k1 k2
          clear q0 q1 qf qz p0 p1 pf pz x0 x1 xf xz
          have HBf := Lib.hid HBr.out
          obtain ⟨U3, hU3⟩ : ∃ U3 : World, U3 = wr := ⟨_, rfl⟩
          subst hU3
          go_loopw [15] (fun j wr => ∃ i : Nat, i ≤ m ∧ j = .int .i64 i ∧ Below U3.heap.size U3 wr) (fun j _ => m - (intOf j).toNat)
          case atStart => exact ⟨0, by omega, rfl, Below.refl _ _⟩
          case round =>
            clear HPr
            obtain ⟨i, hi', rfl, hb4⟩ := hrel
            have HB4 := Lib.hid hb4
            by_cases hlt4 : i < m
            · have HRE := Lib.hid (fun (k : Nat) (hk : k < nL) => show ∃ bv' ov' bk ok hc, (some ⟨bv, ov, none⟩ : Option Addr) = some ⟨bv', ov', none⟩ ∧ bv' < w4.heap.size ∧ bk < w4.heap.size ∧ ∀ w', Below U3.heap.size U3 w' → w'.cell? ⟨bv', ov' + k, none⟩ = some (.slice (some ⟨bk, ok, none⟩) m hc) ∧ w'.cell? ⟨bk, ok + i, none⟩ = some (.int .i64 (gi i (LL[k]'(by rw [HNL.out]; exact hk)))) from by
                obtain ⟨bv', ov', ha, hn, hc, hav, hbv', hcl, hsl, hasg⟩ := HRD.out k hk
                have hlm := hasg.len
                rw [HM.out] at hlm
                obtain ⟨a', c', e, _, hA⟩ := hsl
                injection e with e1 e2 e3
                subst e1 e2 e3
                obtain ⟨bk, ok, e, hbk, hc2⟩ := hA (by omega)
                subst e
                rw [hlm] at hcl
                refine ⟨bv', ov', bk, ok, _, hav, hbv', hbk, fun w' hb => ⟨hcl w' (HAr.out.trans (hb.mono HAr.out.size)), ?_⟩⟩
                have h3 := ((hc2 i (by omega)).below (HAr.out.trans (hb.mono HAr.out.size)) hbk).c1
                rw [Nat.mul_one] at h3
                rw [h3]
                unfold gi
                rw [getD_at _ i (by omega)])
              obtain ⟨bv0, ov0, bk, ok0, hcc, hav, hbv0, hbk, hce⟩ := HRE.out 0 hpos
              cases hav
              obtain ⟨c0, c1⟩ := hce wr hb4
              simp only [Nat.add_zero] at c0
              have hz1 : bv < wr.heap.size := by have := HAr.out.size; have := hb4.size; omega
              have hz2 : bk < wr.heap.size := by have := HAr.out.size; have := hb4.size; omega
              have HE0 := Lib.hid (Exk.start (gi i) HL0.out)
              generalize gi i (LL[0]'HL0.out) = y0 at *
              clear hce hb4
              go_wp2_with fail
              go_quiet (fail)
              clear c0 c1
              go_wp2_with fail
              obtain ⟨U4, hU4⟩ : ∃ U4 : World, U4 = wr := ⟨_, rfl⟩
              subst hU4
              go_loopw [18, 16, 17] (fun j a c wr => ∃ (k : Nat) (lo hi : Int), k ≤ nL ∧ j = .int .i64 k ∧ a = .int .i64 lo ∧ c = .int .i64 hi ∧ Below U3.heap.size U3 wr ∧ Exk LL (gi i) k lo hi) (fun j _ _ _ => nL - (intOf j).toNat)
              case atStart => exact ⟨0, _, _, by omega, rfl, rfl, rfl, below_drewN HB4.out _, HE0.out⟩
              case round =>
                clear HE0
                obtain ⟨k, lo5, hi5, hk5, rfl, rfl, rfl, hb5, hex⟩ := hrel
                have HB5 := Lib.hid hb5
                have HEX := Lib.hid hex
                by_cases hlt5 : k < nL
                · have HKL := Lib.hid (show k < LL.length by rw [HNL.out]; exact hlt5)
                  obtain ⟨bv1, ov1, bk1, ok1, hcc1, hav, hbv1, hbk1, hce⟩ := HRE.out k hlt5
                  cases hav
                  obtain ⟨c0, c1⟩ := hce _ hb5
                  have hz3 : bk1 < wr.heap.size := by have := HAr.out.size; have := hb5.size; omega
                  have hz4 : bv < wr.heap.size := by have := HAr.out.size; have := hb5.size; omega
                  obtain ⟨y, hy⟩ : ∃ y, gi i (LL[k]'HKL.out) = y := ⟨_, rfl⟩
                  rw [hy] at c1
                  have hst := hex.step HKL.out hy
                  obtain ⟨nlo, hnlo⟩ : ∃ x, (if y < lo5 then y else lo5) = x := ⟨_, rfl⟩
                  obtain ⟨nhi, hnhi⟩ : ∃ x, (if hi5 < y then y else hi5) = x := ⟨_, rfl⟩
                  rw [hnlo, hnhi] at hst
                  have HST := Lib.hid hst
                  clear hst hy hce hex hb5
                  go_wp2_with fail
                  go_quiet (fail)
                  go_wp2_with fail
                  go_roundw
                  case rel => exact ⟨k + 1, nlo, nhi, by omega, by go_num, rfl, rfl, below_drewN HB5.out _, HST.out⟩
                  case measure => simp [intOf]; omega
                · obtain rfl : nL = k := by omega
                  have hsp5 : Span b (gi i) lo5 hi5 := Exk.span (by rw [← HNL.out] at hex; exact hex) HMEM.out
                  have hir : i < rs.length := by rw [HRL.out]; exact hlt4
                  obtain ⟨e1, e2⟩ := (HTS.out.sp i hir).unique hsp5
                  obtain ⟨_, _, f1, _, hA⟩ := HTr.out.later hb5
                  injection f1 with f1 f2 f3
                  subst f1 f3
                  clear f2
                  obtain ⟨bt, ot, hat, hbt, htc⟩ := hA (by omega)
                  subst hat
                  obtain ⟨r0, r1⟩ := (htc i hir).c2
                  rw [e1] at r0
                  rw [e2] at r1
                  have k1 : (lo5 == lo5) = true := beq_self_eq_true _
                  have k2 : (hi5 == hi5) = true := beq_self_eq_true _
                  clear htc hA e1 e2 hsp5 hex hb5
                  go_wp2_with fail
                  go_roundw
                  case rel => exact ⟨i + 1, by omega, by go_num, HB5.out⟩
                  case measure => simp [intOf]; omega
            · obtain rfl : m = i := by omega
              clear hb4
              go_wp2_with fail
              go_ret
              exact ⟨rfl, HBf.out.trans (HB4.out.mono HBf.out.size)⟩
end Go.Proofs.Ytlakcghdehdeiaa

namespace Go.Proofs.Ytlakcghdehdeiaa
open Go Go.Proofs Go.RowKit Go.ChangeShapes Go.WideShapes Go.ChangeAt Go.Joins Go.Deep

set_option maxRecDepth 100000 in
theorem weighExhausts_contract (H : Type) (enc : TypeId × Value → H) (W : World) (base : Nat) (args : Array Value) (ds gs : List (DataW H)) (before : List MemPlace)
    (hval : ∀ (j : Nat) t v, Try.f9.params[j]? = some t → args[j]? = some v → Value.okWide Try.prog W .any base t v)
    (hW : DataW.Whole enc Try.prog Try.f9.params.toList Rows.weighExhaustsSpec.vars false W args.toList ds gs before) :
    Calls Try.prog 9 args W fun e W' => ∃ v, e = .returned v ∧ Rows.weighExhaustsSpec.post enc Try.prog Try.f9 false true false false W args v W' := by
  have hW' := hW
  obtain ⟨p, q, hA0, hV, rfl, hfz, hnd⟩ := hW
  have hA : DataW.TrodAll enc Try.prog W 0 (fun _ => true) true Try.f9.params.toList args.toList ds p := hA0
  rw [Try.params9] at hA hval
  obtain ⟨v0, v1, d0, d1, p0, p1, rfl, rfl, rfl, h0, h1⟩ := trodAll_two hA
  obtain ⟨a0, n0, c0, d0, m0, e0, rfl, hn0, hm0, hl0⟩ := bk_open (hval 0 38 v0 rfl rfl) h0
  obtain ⟨a1, n1, c1, rfl⟩ := okWide_slice Try.underlying22 (hval 1 22 v1 rfl rfl)
  obtain ⟨hn1, hl1⟩ := sl_ints h1
  have key : Calls Try.prog 9 #[.agg #[.slice a0 n0 c0, .slice d0 m0 e0], .slice a1 n1 c1] W (Ret (.bool true) W) := by
    by_cases hbig : 32 < n0 ∨ 128 < m0
    · exact exhausts9_dark _ _ a1 n1 c1 W (notTiny_big rfl rfl hn0 hm0 (fun h => bk_stock (hval 0 38 _ rfl rfl) h0 (by omega)) hbig) ⟨⟨_, _, _, rfl⟩, _, _, _, rfl⟩
    · obtain ⟨b, hb1, hb2, hb, _⟩ := hl0 (by omega) (by omega)
      by_cases hlt : tinyB b = true
      · obtain ⟨_, l, hll, hs, _⟩ := sl_ints_long h1
        have h6 : b.st.length ≤ 32 := by omega
        by_cases hn : ckNums l b.st.length = 0
        · have hsh : l.length ≤ b.st.length := Nat.le_of_not_lt fun h => ckNums_long h hn
          exact exhausts9 _ _ _ W b l hb (hs.short (by omega)) hlt hn
        · exact exhausts9_out _ _ _ W b l hb hs hlt hn
      · exact exhausts9_dark _ _ a1 n1 c1 W (notTiny_of hb (eq_false_of_ne_true hlt)) ⟨⟨_, _, _, rfl⟩, _, _, _, rfl⟩
  refine key.mono fun e W' ⟨he, hb⟩ => ⟨_, he, ?_⟩
  exact law_post rfl rfl rfl (by rw [Try.params9]; decide) hW' rfl rfl rfl hb

set_option maxRecDepth 100000 in
theorem weighExhausts_lifted (os : Os) (started : os.Started) (H : Type) (enc : TypeId × Value → H) :
    ReturnsInHanded {} Try.checked os 9 .any (Rows.weighExhaustsSpec.pre6 enc Try.prog Try.f9 Rows.weighExhaustsRow.domain false) (Rows.weighExhaustsSpec.post enc Try.prog Try.f9 false true false false) := by
  refine returnsInHanded_of_change (C := Try.checked) Try.own started (by kernel_rfl) Try.func9
    (ChangeSpec.witness6 (enc := enc) (C := Try.checked) false ⟨#[], #[.agg #[.slice none 0 0, .slice none 0 0], .slice none 0 0], []⟩ 8 (by kernel_rfl) (by kernel_rfl) (by kernel_rfl) (by kernel_rfl)) ?_
  intro W base args ds gs before hval hW _ _
  exact weighExhausts_contract H enc W base args ds gs before hval hW

theorem weighExhausts_holds : Rows.WeighExhaustsSaid :=
  OpenClaim.holds_of_wide 9 Try.f9 rfl rfl rfl rfl rfl rfl rfl ⟨rfl, rfl, rfl, rfl, rfl⟩ rfl rfl rfl rfl rfl (by kernel_rfl) Try.func9 (by kernel_rfl)
    (of_decide_eq_true (by kernel_rfl)) (by unfold Func.isWrapper; first | (rw [if_pos (by decide +kernel)]; kernel_rfl) | (rw [if_neg (by decide +kernel)]; exact ⟨rfl, rfl⟩))
    (fun os started H enc _ => weighExhausts_lifted os started H enc)
end Go.Proofs.Ytlakcghdehdeiaa
