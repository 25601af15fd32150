/- The law WeighChanges returns true for every input, and leaves its arguments as they were. No conditions. -/
import Derived.Test.YtlakcghdehdeiaaLib19
import Derived.Test.YtlakcghdehdeiaaLib14
import Derived.Test.YtlakcghdehdeiaaLib15
import Derived.Test.YtlakcghdehdeiaaLib20
set_option linter.unusedVariables false
set_option linter.unusedSimpArgs false

/- The law of Tighten, walked. -/
namespace Go.Proofs.Ytlakcghdehdeiaa
open Go Go.Proofs Go.RowKit

/-- A book that the laws leave aside. -/
def AsideB (w : World) (v : Value) : Prop := ∀ w1, Below w.heap.size w w1 → Calls Try.prog 23 #[v] w1 (Ret (.bool true) w1)
theorem asideB_big (a1 a2 : Option Addr) (n1 c1 n2 c2 : Nat) (w : World) (h1 : n1 ≤ 9223372036854775807) (h2 : n2 ≤ 9223372036854775807) (hb : 40 < n1 ∨ 132 < n2) : AsideB w (.agg #[.slice a1 n1 c1, .slice a2 n2 c2]) :=
  fun w1 _ => heavy23_big a1 a2 n1 c1 n2 c2 w1 h1 h2 hb
theorem asideB_of {v1 v2 : Value} {b : Bk} {w : World} (hv : BkR w w.heap.size v1 v2 b) (h : heavyB b = true) : AsideB w (.agg #[v1, v2]) := fun w1 hb => by
  have := heavy23 v1 v2 b w1 (hv.later hb)
  rwa [h] at this

set_option maxRecDepth 100000 in
set_option maxHeartbeats 1000000 in
theorem tightens8_aside (v1 v2 : Value) (w : World) (h : AsideB w (.agg #[v1, v2])) (hs : (∃ a n c, v1 = .slice a n c) ∧ ∃ a n c, v2 = .slice a n c) :
    Calls Try.prog 8 #[.agg #[v1, v2]] w (Ret (.bool true) w) := by
  obtain ⟨⟨a1, n1, c1, rfl⟩, a2, n2, c2, rfl⟩ := hs
  have H := Lib.hid h
  clear h
  go_enter Try.func8, Try.ntmps8
  go_wp2_with fail
  refine (awake16 _).mono ?_
  rintro e w1 ⟨rfl, hb1⟩
  have HX := Lib.hid ((Box.new w #[.slice a1 n1 c1, .slice a2 n2 c2] 38).later hb1)
  have HB1 := Lib.hid (((Below.refl w.heap.size w).alloc (Nat.le_refl _) (.cells #[.slice a1 n1 c1, .slice a2 n2 c2] 38)).trans (hb1.mono (by simp)))
  clear hb1
  obtain ⟨x0, x1, xf, xz⟩ := HX.out.v2
  go_wp2_with fail
  refine (H.out _ HB1.out).mono ?_
  rintro e w2 ⟨rfl, hb2⟩
  have HB2 := Lib.hid (HB1.out.trans (hb2.mono HB1.out.size))
  clear hb2 x0 x1 xf xz
  go_wp2_with fail
  refine (awake16 _).mono ?_
  rintro e w3 ⟨rfl, hb3⟩
  have HB3 := Lib.hid (HB2.out.trans (hb3.mono HB2.out.size))
  clear hb3
  go_wp2_with fail
  go_ret
  exact ⟨rfl, HB3.out⟩

theorem ranges_ok (v r : Value) (l lr : List Rg) (e n : Int) (w : World) (hl : Sl Rg.enc 2 w w.heap.size v l) (hr : Sl Rg.enc 2 w w.heap.size r lr) (h : rangesP l e n lr) : Calls Try.prog 21 #[v, .int .i64 e, .int .i64 n, r] w (Ret (.bool true) w) := by
  have := ranges21 v r l lr e n w hl hr
  rwa [decide_eq_true h] at this

set_option maxRecDepth 100000 in
set_option maxHeartbeats 1000000 in
theorem tightens8 (v1 v2 : Value) (w : World) (b : Bk) (hv : BkR w w.heap.size v1 v2 b) (hhv : heavyB b = false) :
    Calls Try.prog 8 #[.agg #[v1, v2]] w (Ret (.bool true) w) := by
  obtain ⟨R, hR⟩ : ∃ R : Bool, R = true ↔ Con b := by
    classical
    exact ⟨decide (Con b), by simp⟩
  have H := Lib.hid (fun (w1 : World) (hb : Below w.heap.size w w1) => heavy23 v1 v2 b w1 (hv.later hb))
  have C24 := Lib.hid (fun (w1 : World) (hb : Below w.heap.size w w1) => ckBook24 v1 v2 b w1 (hv.later hb))
  have C37 := Lib.hid (fun (w1 : World) (hb : Below w.heap.size w w1) => isCon37 w1 v1 v2 b (hv.later hb))
  have C35 := Lib.hid (fun (w1 : World) (hb : Below w.heap.size w w1) => tighten35 w1 v1 v2 b (hv.later hb))
  have C31 := Lib.hid (fun (w1 : World) (hb : Below w.heap.size w w1) (hok : OkBk b) => isCon31 w1 v1 v2 b hok (hv.later hb) R hR)
  have C38 := Lib.hid (fun (w1 : World) (hb : Below w.heap.size w w1) (hok : OkBk b) (hc : Con b) => tighten38 w1 v1 v2 b hok (hv.later hb) hc)
  rw [hhv] at H
  have HR := Lib.hid hR
  clear hR hhv
  obtain ⟨⟨a1, n1, hv1, hl1, hA1⟩, ⟨a2, n2, hv2, hl2, hA2⟩, hids⟩ := hv
  subst hv1 hv2
  clear hA1 hA2 hids
  obtain ⟨CK, hCK⟩ : ∃ CK, ckBook b = CK := ⟨_, rfl⟩
  rw [hCK] at C24
  have ECK := Lib.hid hCK
  clear hCK
  go_enter Try.func8, Try.ntmps8
  go_wp2_with fail
  refine (awake16 _).mono ?_
  rintro e w1 ⟨rfl, hb1⟩
  have HX1 := Lib.hid ((Box.new w #[.slice a1 b.st.length n1, .slice a2 b.ts.length n2] 38).later hb1)
  have HB1 := Lib.hid (((Below.refl w.heap.size w).alloc (Nat.le_refl _) (.cells #[.slice a1 b.st.length n1, .slice a2 b.ts.length n2] 38)).trans (hb1.mono (by simp)))
  clear hb1
  obtain ⟨x0, x1, xf, xz⟩ := HX1.out.v2
  go_wp2_with fail
  refine (H.out _ HB1.out).mono ?_
  rintro e w2 ⟨rfl, hb2⟩
  have HX2 := Lib.hid (HX1.out.later hb2)
  have HB2 := Lib.hid (HB1.out.trans (hb2.mono HB1.out.size))
  clear hb2 x0 x1 xf xz HX1 HB1
  obtain ⟨x0, x1, xf, xz⟩ := HX2.out.v2
  go_wp2_with fail
  refine (C37.out _ HB2.out).mono ?_
  rintro e w3 ⟨ok, rfl, hb3, hok⟩
  have HX3 := Lib.hid (HX2.out.later hb3)
  have HB3 := Lib.hid (HB2.out.trans (hb3.mono HB2.out.size))
  rw [ECK.out] at hok ⊢
  have HOK := Lib.hid hok
  clear hok hb3 x0 x1 xf xz HX2 HB2
  obtain ⟨x0, x1, xf, xz⟩ := HX3.out.v2
  go_wp2_with fail
  refine (C35.out _ HB3.out).mono ?_
  rintro e w4 ⟨hb4, hor⟩
  rw [ECK.out] at hor
  have HOR := Lib.hid hor
  have HX4 := Lib.hid (HX3.out.later hb4)
  have HB4 := Lib.hid (HB3.out.trans (hb4.mono HB3.out.size))
  clear hor hb4 x0 x1 xf xz HX3 HB3
  obtain ⟨x0, x1, xf, xz⟩ := HX4.out.v2
  rcases HOR.out with ⟨h0, rfl⟩ | ⟨h0, hc, rfl⟩ | ⟨h0, hc, vt, rs, rfl, hsl, hlen, htt⟩
  · have hok : ok = false := by
      cases ok with
      | false => rfl
      | true => exact absurd (HOK.out.1 rfl).1 h0
    subst hok
    go_wp2_with fail
    refine (C24.out _ HB4.out).mono ?_
    rintro e w5 ⟨rfl, hb5⟩
    have HB5 := Lib.hid (HB4.out.trans (hb5.mono HB4.out.size))
    clear hb5 x0 x1 xf xz HX4 HB4
    have k0 : (CK == 0) = false := beq_eq_false_iff_ne.2 h0
    have k1 : (CK == CK) = true := beq_self_eq_true _
    go_wp2_with fail
    refine (ranges_ok _ _ [] [] CK CK w5 (Sl.nil _ _ _ _ _ _) (Sl.nil _ _ _ _ _ _) (by unfold rangesP; rw [if_pos h0]; exact ⟨rfl, rfl⟩)).mono ?_
    rintro e w6 ⟨rfl, hb6⟩
    have HB6 := Lib.hid (HB5.out.trans (hb6.mono HB5.out.size))
    clear hb6
    go_wp2_with fail
    go_ret
    exact ⟨rfl, HB6.out⟩
  · subst h0
    have hok : ok = R := by
      have h1 := HOK.out
      have h2 := HR.out
      cases ok <;> cases R <;> simp_all
    subst hok
    have hrf : ok = false := by
      cases ok with
      | false => rfl
      | true => exact absurd (HR.out.1 rfl) hc
    subst hrf
    go_wp2_with fail
    refine (C24.out _ HB4.out).mono ?_
    rintro e w5 ⟨rfl, hb5⟩
    have HX5 := Lib.hid (HX4.out.later hb5)
    have HB5 := Lib.hid (HB4.out.trans (hb5.mono HB4.out.size))
    clear hb5 x0 x1 xf xz HX4 HB4
    obtain ⟨x0, x1, xf, xz⟩ := HX5.out.v2
    go_wp2_with fail
    refine (C31.out _ HB5.out (okBk_of ECK.out)).mono ?_
    rintro e w6 ⟨rfl, hb6⟩
    have HB6 := Lib.hid (HB5.out.trans (hb6.mono HB5.out.size))
    clear hb6 x0 x1 xf xz HX5 HB5
    go_wp2_with fail
    refine (ranges_ok _ _ [] [] 15 15 w6 (Sl.nil _ _ _ _ _ _) (Sl.nil _ _ _ _ _ _) (by unfold rangesP; simp)).mono ?_
    rintro e w7 ⟨rfl, hb7⟩
    have HB7 := Lib.hid (HB6.out.trans (hb7.mono HB6.out.size))
    clear hb7
    go_wp2_with fail
    go_ret
    exact ⟨rfl, HB7.out⟩
  · subst h0
    have hok : ok = R := by
      have h1 := HOK.out
      have h2 := HR.out
      cases ok <;> cases R <;> simp_all
    subst hok
    have hrf : ok = true := HR.out.2 hc
    subst hrf
    have HSL4 := Lib.hid hsl
    have HTT := Lib.hid htt
    clear hsl htt
    go_wp2_with fail
    refine (C24.out _ HB4.out).mono ?_
    rintro e w5 ⟨rfl, hb5⟩
    have HX5 := Lib.hid (HX4.out.later hb5)
    have HB5 := Lib.hid (HB4.out.trans (hb5.mono HB4.out.size))
    have HSL5 := Lib.hid (HSL4.out.later hb5)
    clear hb5 x0 x1 xf xz HX4 HB4 HSL4
    obtain ⟨x0, x1, xf, xz⟩ := HX5.out.v2
    go_wp2_with fail
    refine (C31.out _ HB5.out (okBk_of ECK.out)).mono ?_
    rintro e w6 ⟨rfl, hb6⟩
    have HX6 := Lib.hid (HX5.out.later hb6)
    have HB6 := Lib.hid (HB5.out.trans (hb6.mono HB5.out.size))
    have HSL6 := Lib.hid (HSL5.out.later hb6)
    clear hb6 x0 x1 xf xz HX5 HB5 HSL5
    obtain ⟨x0, x1, xf, xz⟩ := HX6.out.v2
    go_wp2_with fail
    refine (C38.out _ HB6.out (okBk_of ECK.out) hc).mono ?_
    rintro e w7 ⟨vt2, rs2, rfl, hsl2, hlen2, htt2, hb7⟩
    have hrr : rs2 = rs := TightS.unique (tightS_of (okBk_of ECK.out) hlen HTT.out) (tightS_of (okBk_of ECK.out) hlen2 htt2)
    subst hrr
    have HB7 := Lib.hid (HB6.out.trans (hb7.mono HB6.out.size))
    have HSL7 := Lib.hid (HSL6.out.later hb7)
    have HSL2 := Lib.hid hsl2
    clear hb7 hsl2 htt2 x0 x1 xf xz HX6 HB6 HSL6
    go_wp2_with fail
    refine (ranges_ok _ _ rs2 rs2 0 0 w7 HSL7.out HSL2.out (by unfold rangesP; simp)).mono ?_
    rintro e w8 ⟨rfl, hb8⟩
    have HB8 := Lib.hid (HB7.out.trans (hb8.mono HB7.out.size))
    clear hb8
    go_wp2_with fail
    go_ret
    exact ⟨rfl, HB8.out⟩
end Go.Proofs.Ytlakcghdehdeiaa

/- The law of Change, walked. -/
namespace Go.Proofs.Ytlakcghdehdeiaa
open Go Go.Proofs Go.RowKit

theorem Together.unique {n : Nat} {l : List Ac} {is : List Nat} {lo hi lo' hi' : Int} (h : Together n l is lo hi) (h' : Together n l is lo' hi') : lo = lo' ∧ hi = hi' ∧ lo ≤ hi := by
  obtain ⟨⟨a, a1, a2, a3⟩, ⟨c, c1, c2, c3⟩, hb⟩ := h
  obtain ⟨⟨a', a1', a2', a3'⟩, ⟨c', c1', c2', c3'⟩, hb'⟩ := h'
  have h1 := hb a' a1' a2'
  have h2 := hb c' c1' c2'
  have h3 := hb' a a1 a2
  have h4 := hb' c c1 c2
  have h5 := hb a a1 a2
  omega
theorem alike_ok (x y : Rg) (e bad : Int) (w : World) (h : alikeB x e bad y = true) : Calls Try.prog 33 #[.agg #[.int .i64 x.lo, .int .i64 x.hi], .int .i64 e, .int .i64 bad, .agg #[.int .i64 y.lo, .int .i64 y.hi]] w (Ret (.bool true) w) := by
  have := alike33 x y e bad w
  rwa [h] at this
/-- What Change returns, the errors of its arguments, whether there is an assignment. -/
def ChOut (b : Bk) (ps : List Int) (x : Rg) (E : Int) : Prop :=
  (chE b ps ≠ 0 ∧ x = z ∧ E = chE b ps) ∨ (chE b ps = 0 ∧ ¬ Con b ∧ x = z ∧ E = 15) ∨ (chE b ps = 0 ∧ Con b ∧ ∃ lo hi, Together b.st.length (arcsOf b) (idx b.ts.length ps) lo hi ∧ ((ckRange ⟨lo, hi⟩ ≠ 0 ∧ x = z ∧ E = 4) ∨ (ckRange ⟨lo, hi⟩ = 0 ∧ x = ⟨lo, hi⟩ ∧ E = 0)))
theorem change_p (w : World) (v1 v2 u : Value) (b : Bk) (ps : List Int) (hv : BkR w w.heap.size v1 v2 b) (hu : Sl encI 1 w w.heap.size u ps) :
    Calls Try.prog 29 #[.agg #[v1, v2], u] w (fun e w' => ∃ x E, e = .returned (.tuple #[.agg #[.int .i64 x.lo, .int .i64 x.hi], .int .i64 E]) ∧ ChOut b ps x E ∧ Below w.heap.size w w') := by
  refine (change29 w v1 v2 u b ps hv hu).mono ?_
  rintro e w' ⟨hb, ⟨h1, rfl⟩ | ⟨h1, h2, rfl⟩ | ⟨h1, h2, lo, hi, h3, ⟨h4, rfl⟩ | ⟨h4, rfl⟩⟩⟩
  · exact ⟨z, _, rfl, .inl ⟨h1, rfl, rfl⟩, hb⟩
  · exact ⟨z, _, rfl, .inr (.inl ⟨h1, h2, rfl, rfl⟩), hb⟩
  · exact ⟨z, _, rfl, .inr (.inr ⟨h1, h2, lo, hi, h3, .inl ⟨h4, rfl, rfl⟩⟩), hb⟩
  · exact ⟨⟨lo, hi⟩, _, rfl, .inr (.inr ⟨h1, h2, lo, hi, h3, .inr ⟨h4, rfl, rfl⟩⟩), hb⟩

set_option maxRecDepth 100000 in
set_option maxHeartbeats 1000000 in
theorem changes5_aside (v1 v2 : Value) (a : Option Addr) (n c : Nat) (w : World) (h : AsideB w (.agg #[v1, v2])) (hs : (∃ a n c, v1 = .slice a n c) ∧ ∃ a n c, v2 = .slice a n c) :
    Calls Try.prog 5 #[.agg #[v1, v2], .slice a n c] w (Ret (.bool true) w) := by
  obtain ⟨⟨a1, n1, c1, rfl⟩, a2, n2, c2, rfl⟩ := hs
  have H := Lib.hid h
  clear h
  go_enter Try.func5, Try.ntmps5
  go_wp2_with fail
  refine (awake16 _).mono ?_
  rintro e w1 ⟨rfl, hb1⟩
  have HX := Lib.hid ((Box.new w #[.slice a1 n1 c1, .slice a2 n2 c2] 38).later hb1)
  have HB1 := Lib.hid (((Below.refl w.heap.size w).alloc (Nat.le_refl _) (.cells #[.slice a1 n1 c1, .slice a2 n2 c2] 38)).trans (hb1.mono (by simp)))
  clear hb1
  obtain ⟨x0, x1, xf, xz⟩ := HX.out.v2
  go_wp2_with fail
  refine (H.out _ HB1.out).mono ?_
  rintro e w2 ⟨rfl, hb2⟩
  have HB2 := Lib.hid (HB1.out.trans (hb2.mono HB1.out.size))
  clear hb2 x0 x1 xf xz
  go_wp2_with fail
  refine (awake16 _).mono ?_
  rintro e w3 ⟨rfl, hb3⟩
  have HB3 := Lib.hid (HB2.out.trans (hb3.mono HB2.out.size))
  clear hb3
  go_wp2_with fail
  go_ret
  exact ⟨rfl, HB3.out⟩

set_option maxRecDepth 100000 in
set_option maxHeartbeats 1000000 in
theorem changes5_many (v1 v2 : Value) (a : Option Addr) (n c : Nat) (w : World) (b : Bk) (hv : BkR w w.heap.size v1 v2 b) (hhv : heavyB b = false) (hn : n ≤ 9223372036854775807) (hbig : 20 < n) :
    Calls Try.prog 5 #[.agg #[v1, v2], .slice a n c] w (Ret (.bool true) w) := by
  have H := Lib.hid (fun (w1 : World) (hb : Below w.heap.size w w1) => heavy23 v1 v2 b w1 (hv.later hb))
  rw [hhv] at H
  obtain ⟨⟨a1, n1, hv1, hl1, hA1⟩, ⟨a2, n2, hv2, hl2, hA2⟩, hids⟩ := hv
  subst hv1 hv2
  clear hA1 hA2 hids hhv
  have hb20 : decide ((20 : Int) < (n : Int)) = true := decide_eq_true (by omega)
  go_enter Try.func5, Try.ntmps5
  go_wp2_with fail
  refine (awake16 _).mono ?_
  rintro e w1 ⟨rfl, hb1⟩
  have HX := Lib.hid ((Box.new w #[.slice a1 b.st.length n1, .slice a2 b.ts.length n2] 38).later hb1)
  have HB1 := Lib.hid (((Below.refl w.heap.size w).alloc (Nat.le_refl _) (.cells #[.slice a1 b.st.length n1, .slice a2 b.ts.length n2] 38)).trans (hb1.mono (by simp)))
  clear hb1
  obtain ⟨x0, x1, xf, xz⟩ := HX.out.v2
  go_wp2_with fail
  refine (H.out _ HB1.out).mono ?_
  rintro e w2 ⟨rfl, hb2⟩
  have HB2 := Lib.hid (HB1.out.trans (hb2.mono HB1.out.size))
  clear hb2 x0 x1 xf xz
  go_wp2_with fail
  refine (awake16 _).mono ?_
  rintro e w3 ⟨rfl, hb3⟩
  have HB3 := Lib.hid (HB2.out.trans (hb3.mono HB2.out.size))
  clear hb3
  go_wp2_with fail
  go_ret
  exact ⟨rfl, HB3.out⟩

set_option maxRecDepth 100000 in
set_option maxHeartbeats 1000000 in
theorem changes5 (v1 v2 u : Value) (w : World) (b : Bk) (ps : List Int) (hv : BkR w w.heap.size v1 v2 b) (hu : Sl encI 1 w w.heap.size u ps) (hhv : heavyB b = false) (hpl : ps.length ≤ 20) :
    Calls Try.prog 5 #[.agg #[v1, v2], u] w (Ret (.bool true) w) := by
  obtain ⟨R, hR⟩ : ∃ R : Bool, R = true ↔ Con b := by
    classical
    exact ⟨decide (Con b), by simp⟩
  have H := Lib.hid (fun (w1 : World) (hb : Below w.heap.size w w1) => heavy23 v1 v2 b w1 (hv.later hb))
  have C24 := Lib.hid (fun (w1 : World) (hb : Below w.heap.size w w1) => ckBook24 v1 v2 b w1 (hv.later hb))
  have C29 := Lib.hid (fun (w1 : World) (hb : Below w.heap.size w w1) => change_p w1 v1 v2 u b ps (hv.later hb) (hu.later hb))
  have C30 := Lib.hid (fun (w1 : World) (hb : Below w.heap.size w w1) => ckNums30 u ps b.st.length w1 (hu.later hb))
  have C31 := Lib.hid (fun (w1 : World) (hb : Below w.heap.size w w1) (hok : OkBk b) => isCon31 w1 v1 v2 b hok (hv.later hb) R hR)
  have C32 := Lib.hid (fun (w1 : World) (hb : Below w.heap.size w w1) (hok : OkBk b) (hn : ckNums ps b.st.length = 0) (hc : Con b) => change32 w1 v1 v2 u b ps hok (hv.later hb) (hu.later hb) hn hc)
  rw [hhv] at H
  have HR := Lib.hid hR
  clear hR hhv
  obtain ⟨⟨a1, n1, hv1, hl1, hA1⟩, ⟨a2, n2, hv2, hl2, hA2⟩, hids⟩ := hv
  subst hv1 hv2
  obtain ⟨a3, n3, hv3, hl3, hA3⟩ := hu
  subst hv3
  clear hA1 hA2 hA3 hids
  obtain ⟨CK, hCK⟩ : ∃ CK, ckBook b = CK := ⟨_, rfl⟩
  obtain ⟨CN, hCN⟩ : ∃ CN, ckNums ps b.st.length = CN := ⟨_, rfl⟩
  have hCE : chE b ps = firstNZ [CK, CN] := by unfold chE; rw [hCK, hCN]
  obtain ⟨CE, hCE2⟩ : ∃ CE, firstNZ [CK, CN] = CE := ⟨_, rfl⟩
  rw [hCE2] at hCE
  rw [hCK] at C24
  rw [hCN] at C30
  have ECK := Lib.hid hCK
  have ECN := Lib.hid hCN
  have ECE := Lib.hid hCE
  have ECE2 := Lib.hid hCE2
  clear hCK hCN hCE hCE2
  have hb20 : decide ((20 : Int) < (ps.length : Int)) = false := decide_eq_false (by omega)
  go_enter Try.func5, Try.ntmps5
  go_wp2_with fail
  refine (awake16 _).mono ?_
  rintro e w1 ⟨rfl, hb1⟩
  have HX1 := Lib.hid ((Box.new w #[.slice a1 b.st.length n1, .slice a2 b.ts.length n2] 38).later hb1)
  have HB1 := Lib.hid (((Below.refl w.heap.size w).alloc (Nat.le_refl _) (.cells #[.slice a1 b.st.length n1, .slice a2 b.ts.length n2] 38)).trans (hb1.mono (by simp)))
  clear hb1
  obtain ⟨x0, x1, xf, xz⟩ := HX1.out.v2
  go_wp2_with fail
  refine (H.out _ HB1.out).mono ?_
  rintro e w2 ⟨rfl, hb2⟩
  have HX2 := Lib.hid (HX1.out.later hb2)
  have HB2 := Lib.hid (HB1.out.trans (hb2.mono HB1.out.size))
  clear hb2 x0 x1 xf xz HX1 HB1
  obtain ⟨x0, x1, xf, xz⟩ := HX2.out.v2
  go_wp2_with fail
  refine (C29.out _ HB2.out).mono ?_
  rintro e w3 ⟨⟨xl, xh⟩, E, rfl, hco, hb3⟩
  unfold ChOut at hco
  rw [ECE.out] at hco
  have HCO := Lib.hid hco
  have HX3 := Lib.hid (HX2.out.later hb3)
  have HB3 := Lib.hid (HB2.out.trans (hb3.mono HB2.out.size))
  clear hco hb3 x0 x1 xf xz HX2 HB2
  obtain ⟨x0, x1, xf, xz⟩ := HX3.out.v2
  go_wp2_with fail
  have hba : Below w3.heap.size w3 (w3.alloc (.cells #[.int .i64 xl, .int .i64 xh] 24)) := (Below.refl _ _).alloc (Nat.le_refl _) _
  have HC4 := Lib.hid (Box.new w3 #[.int .i64 xl, .int .i64 xh] 24)
  have HX4 := Lib.hid (HX3.out.later hba)
  have HB4 := Lib.hid (HB3.out.trans (hba.mono HB3.out.size))
  generalize w3.alloc (.cells #[.int .i64 xl, .int .i64 xh] 24) = w4 at *
  generalize w3.heap.size = P at *
  clear hba x0 x1 xf xz HX3 HB3
  refine (C24.out _ HB4.out).mono ?_
  rintro e w5 ⟨rfl, hb5⟩
  have HX5 := Lib.hid (HX4.out.later hb5)
  have HC5 := Lib.hid (HC4.out.later hb5)
  have HB5 := Lib.hid (HB4.out.trans (hb5.mono HB4.out.size))
  clear hb5 HX4 HB4 HC4
  obtain ⟨x0, x1, xf, xz⟩ := HX5.out.v2
  go_wp2_with fail
  refine (C30.out _ HB5.out).mono ?_
  rintro e w6 ⟨rfl, hb6⟩
  have HX6 := Lib.hid (HX5.out.later hb6)
  have HC6 := Lib.hid (HC5.out.later hb6)
  have HB6 := Lib.hid (HB5.out.trans (hb6.mono HB5.out.size))
  clear hb6 x0 x1 xf xz HX5 HB5 HC5
  go_wp2_with fail
  refine (first18 _ [CK, CN] _ (Sl.lit encI_len [CK, CN] w6 #[.int .i64 CK, .int .i64 CN] _ 2 rfl rfl (by simp))).mono ?_
  rintro e w7 ⟨rfl, rfl⟩
  rw [ECE2.out]
  have hba : Below w6.heap.size w6 (w6.alloc (.cells #[.int .i64 CK, .int .i64 CN] 3)) := (Below.refl _ _).alloc (Nat.le_refl _) _
  have HX7 := Lib.hid (HX6.out.later hba)
  have HC7 := Lib.hid (HC6.out.later hba)
  have HB7 := Lib.hid (HB6.out.trans (hba.mono HB6.out.size))
  generalize w6.alloc (.cells #[.int .i64 CK, .int .i64 CN] 3) = w7 at *
  clear hba HX6 HC6 HB6
  obtain ⟨x0, x1, xf, xz⟩ := HX7.out.v2
  obtain ⟨c0, c1, cf, cz⟩ := HC7.out.v2
  have hba : Below w7.heap.size w7 (w7.alloc (.cells #[.int .i64 0, .int .i64 0] 24)) := (Below.refl _ _).alloc (Nat.le_refl _) _
  have HQ8 := Lib.hid (Box.new w7 #[.int .i64 0, .int .i64 0] 24)
  have HX8 := Lib.hid (HX7.out.later hba)
  have HC8 := Lib.hid (HC7.out.later hba)
  have HB8 := Lib.hid (HB7.out.trans (hba.mono HB7.out.size))
  rcases HCO.out with ⟨h0, h1, h2⟩ | ⟨h0, hc, h1, h2⟩ | ⟨h0, hc, lo, hi, htg, hor⟩
  · cases h1
    subst h2
    have k0 : (E == 0) = false := beq_eq_false_iff_ne.2 h0
    go_wp2_with fail
    refine (alike_ok z z E E _ (by unfold alikeB; simp [h0])).mono ?_
    rintro e w9 ⟨rfl, hb⟩
    have HBZ := Lib.hid (HB8.out.trans (hb.mono HB8.out.size))
    clear hb
    go_wp2_with fail
    go_ret
    exact ⟨rfl, HBZ.out⟩
  · cases h1
    subst h0 h2
    have hrf : R = false := by
      cases R with
      | false => rfl
      | true => exact absurd (HR.out.1 rfl) hc
    subst hrf
    have HCK0 := Lib.hid (firstNZ_2.1 ECE2.out)
    go_wp2_with fail
    refine (C31.out _ HB8.out (okBk_of (by rw [ECK.out]; exact HCK0.out.1))).mono ?_
    rintro e w9 ⟨rfl, hb9⟩
    have HC9 := Lib.hid (HC8.out.later hb9)
    have HQ9 := Lib.hid (HQ8.out.later hb9)
    have HB9 := Lib.hid (HB8.out.trans (hb9.mono HB8.out.size))
    clear hb9 x0 x1 xf xz c0 c1 cf cz
    obtain ⟨c0, c1, cf, cz⟩ := HC9.out.v2
    obtain ⟨q0, q1, qf, qz⟩ := HQ9.out.v2
    go_wp2_with fail
    refine (alike_ok z z 15 15 _ (by unfold alikeB; simp)).mono ?_
    rintro e w10 ⟨rfl, hb⟩
    have HBZ := Lib.hid (HB9.out.trans (hb.mono HB9.out.size))
    clear hb
    go_wp2_with fail
    go_ret
    exact ⟨rfl, HBZ.out⟩
  · subst h0
    have hrt : R = true := HR.out.2 hc
    subst hrt
    have HCK0 := Lib.hid (firstNZ_2.1 ECE2.out)
    have HTG := Lib.hid htg
    have HOR := Lib.hid hor
    clear htg hor
    go_wp2_with fail
    refine (C31.out _ HB8.out (okBk_of (by rw [ECK.out]; exact HCK0.out.1))).mono ?_
    rintro e w9 ⟨rfl, hb9⟩
    have HX9 := Lib.hid (HX8.out.later hb9)
    have HC9 := Lib.hid (HC8.out.later hb9)
    have HQ9 := Lib.hid (HQ8.out.later hb9)
    have HB9 := Lib.hid (HB8.out.trans (hb9.mono HB8.out.size))
    clear hb9 x0 x1 xf xz c0 c1 cf cz
    obtain ⟨x0, x1, xf, xz⟩ := HX9.out.v2
    go_wp2_with fail
    refine (C32.out _ HB9.out (okBk_of (by rw [ECK.out]; exact HCK0.out.1)) (by rw [ECN.out]; exact HCK0.out.2) hc).mono ?_
    rintro e w10 ⟨lo', hi', rfl, htg', hb10⟩
    obtain ⟨hlo, hhi, hle⟩ := Together.unique HTG.out htg'
    subst hlo hhi
    have hc10 := HC9.out.later hb10
    have hq10 := HQ9.out.later hb10
    have hb11 := HB9.out.trans (hb10.mono HB9.out.size)
    clear htg' hb10 x0 x1 xf xz
    have hpq : P ≠ w7.heap.size := by have := HC7.out.lt; omega
    obtain ⟨q0, q1, qf, qz⟩ := hq10.v2
    have HQ11 := Lib.hid ((hq10.set 0 (.int .i64 lo)).set 1 (.int .i64 hi))
    have HC11 := Lib.hid ((hc10.other (a := ⟨w7.heap.size, 0, none⟩) (.int .i64 lo) (Ne.symm hpq)).other (a := ⟨w7.heap.size, 1, none⟩) (.int .i64 hi) (Ne.symm hpq))
    have HB11 := Lib.hid ((hb11.setCell (p := ⟨w7.heap.size, 0, none⟩) (by have := HB7.out.size; dsimp only; omega) (.int .i64 lo)).setCell (p := ⟨w7.heap.size, 1, none⟩) (by have := HB7.out.size; dsimp only; omega) (.int .i64 hi))
    clear hc10 hq10 hb11
    simp only [List.set_cons_zero, List.set_cons_succ] at HQ11
    obtain ⟨q0', q1', qf', qz'⟩ := HQ11.out.v2
    obtain ⟨c0, c1, cf, cz⟩ := HC11.out.v2
    by_cases hl1 : lo < -999999999
    · have b1 : decide (lo < -999999999) = true := decide_eq_true hl1
      obtain ⟨_, h1, h2⟩ | ⟨h, _⟩ := HOR.out
      · cases h1
        subst h2
        go_wp2_with fail
        refine (when27 true 4 _).mono ?_
        rintro e w12 ⟨rfl, rfl⟩
        simp only [whenB]
        go_wp2_with fail
        refine (alike_ok z ⟨lo, hi⟩ 4 4 _ (by unfold alikeB; simp)).mono ?_
        rintro e w13 ⟨rfl, hb⟩
        have HBZ := Lib.hid (HB11.out.trans (hb.mono HB11.out.size))
        clear hb
        go_wp2_with fail
        go_ret
        exact ⟨rfl, HBZ.out⟩
      · have := ckRange_ok.1 h
        dsimp only at this
        omega
    · have b1 : decide (lo < -999999999) = false := decide_eq_false hl1
      by_cases hl2 : 999999999 < hi
      · have b2 : decide (999999999 < hi) = true := decide_eq_true hl2
        obtain ⟨_, h1, h2⟩ | ⟨h, _⟩ := HOR.out
        · cases h1
          subst h2
          go_wp2_with fail
          refine (when27 true 4 _).mono ?_
          rintro e w12 ⟨rfl, rfl⟩
          simp only [whenB]
          go_wp2_with fail
          refine (alike_ok z ⟨lo, hi⟩ 4 4 _ (by unfold alikeB; simp)).mono ?_
          rintro e w13 ⟨rfl, hb⟩
          have HBZ := Lib.hid (HB11.out.trans (hb.mono HB11.out.size))
          clear hb
          go_wp2_with fail
          go_ret
          exact ⟨rfl, HBZ.out⟩
        · have := ckRange_ok.1 h
          dsimp only at this
          omega
      · have b2 : decide (999999999 < hi) = false := decide_eq_false hl2
        obtain ⟨h, _⟩ | ⟨_, h1, h2⟩ := HOR.out
        · exact absurd (ckRange_ok.2 ⟨by dsimp only; omega, by dsimp only; omega, by dsimp only; omega⟩) h
        · cases h1
          subst h2
          go_wp2_with fail
          refine (when27 false 4 _).mono ?_
          rintro e w12 ⟨rfl, rfl⟩
          simp only [whenB]
          go_wp2_with fail
          refine (alike_ok ⟨xl, xh⟩ ⟨xl, xh⟩ 0 0 _ (by unfold alikeB; simp)).mono ?_
          rintro e w13 ⟨rfl, hb⟩
          have HBZ := Lib.hid (HB11.out.trans (hb.mono HB11.out.size))
          clear hb
          go_wp2_with fail
          go_ret
          exact ⟨rfl, HBZ.out⟩
end Go.Proofs.Ytlakcghdehdeiaa

namespace Go.Proofs.Ytlakcghdehdeiaa
open Go Go.Proofs Go.RowKit Go.ChangeShapes Go.WideShapes Go.ChangeAt Go.Joins Go.Deep

set_option maxRecDepth 100000 in
theorem weighChanges_contract (H : Type) (enc : TypeId × Value → H) (W : World) (base : Nat) (args : Array Value) (ds gs : List (DataW H)) (before : List MemPlace)
    (hval : ∀ (j : Nat) t v, Try.f5.params[j]? = some t → args[j]? = some v → Value.okWide Try.prog W .any base t v)
    (hW : DataW.Whole enc Try.prog Try.f5.params.toList Rows.weighChangesSpec.vars false W args.toList ds gs before) :
    Calls Try.prog 5 args W fun e W' => ∃ v, e = .returned v ∧ Rows.weighChangesSpec.post enc Try.prog Try.f5 false true false false W args v W' := by
  have hW' := hW
  obtain ⟨p, q, hA0, hV, rfl, hfz, hnd⟩ := hW
  have hA : DataW.TrodAll enc Try.prog W 0 (fun _ => true) true Try.f5.params.toList args.toList ds p := hA0
  rw [Try.params5] at hA hval
  obtain ⟨v0, v1, d0, d1, p0, p1, rfl, rfl, rfl, h0, h1⟩ := trodAll_two hA
  obtain ⟨a0, n0, c0, d0, m0, e0, rfl, hn0, hm0, hl0⟩ := bk_open (hval 0 38 v0 rfl rfl) h0
  obtain ⟨a1, n1, c1, rfl⟩ := okWide_slice Try.underlying22 (hval 1 22 v1 rfl rfl)
  obtain ⟨hn1, hl1⟩ := sl_ints h1
  have key : Calls Try.prog 5 #[.agg #[.slice a0 n0 c0, .slice d0 m0 e0], .slice a1 n1 c1] W (Ret (.bool true) W) := by
    by_cases hbig : 40 < n0 ∨ 132 < m0
    · exact changes5_aside _ _ a1 n1 c1 W (asideB_big a0 d0 n0 c0 m0 e0 W hn0 hm0 hbig) ⟨⟨_, _, _, rfl⟩, _, _, _, rfl⟩
    · obtain ⟨b, hb1, hb2, hb, _⟩ := hl0 (by omega) (by omega)
      by_cases hhv : heavyB b = true
      · exact changes5_aside _ _ a1 n1 c1 W (asideB_of hb hhv) ⟨⟨_, _, _, rfl⟩, _, _, _, rfl⟩
      · have hhv2 := eq_false_of_ne_true hhv
        by_cases hbig2 : 20 < n1
        · exact changes5_many _ _ a1 n1 c1 W b hb hhv2 hn1 hbig2
        · obtain ⟨l, hll, hs, _⟩ := hl1 (by omega)
          exact changes5 _ _ _ W b l hb hs hhv2 (by omega)
  refine key.mono fun e W' ⟨he, hb⟩ => ⟨_, he, ?_⟩
  exact law_post rfl rfl rfl (by rw [Try.params5]; decide) hW' rfl rfl rfl hb

set_option maxRecDepth 100000 in
theorem weighChanges_lifted (os : Os) (started : os.Started) (H : Type) (enc : TypeId × Value → H) :
    ReturnsInHanded {} Try.checked os 5 .any (Rows.weighChangesSpec.pre6 enc Try.prog Try.f5 Rows.weighChangesRow.domain false) (Rows.weighChangesSpec.post enc Try.prog Try.f5 false true false false) := by
  refine returnsInHanded_of_change (C := Try.checked) Try.own started (by kernel_rfl) Try.func5
    (ChangeSpec.witness6 (enc := enc) (C := Try.checked) false ⟨#[], #[.agg #[.slice none 0 0, .slice none 0 0], .slice none 0 0], []⟩ 8 (by kernel_rfl) (by kernel_rfl) (by kernel_rfl) (by kernel_rfl)) ?_
  intro W base args ds gs before hval hW _ _
  exact weighChanges_contract H enc W base args ds gs before hval hW

theorem weighChanges_holds : Rows.WeighChangesSaid :=
  OpenClaim.holds_of_wide 5 Try.f5 rfl rfl rfl rfl rfl rfl rfl ⟨rfl, rfl, rfl, rfl, rfl⟩ rfl rfl rfl rfl rfl (by kernel_rfl) Try.func5 (by kernel_rfl)
    (of_decide_eq_true (by kernel_rfl)) (by unfold Func.isWrapper; first | (rw [if_pos (by decide +kernel)]; kernel_rfl) | (rw [if_neg (by decide +kernel)]; exact ⟨rfl, rfl⟩))
    (fun os started H enc _ => weighChanges_lifted os started H enc)
end Go.Proofs.Ytlakcghdehdeiaa
