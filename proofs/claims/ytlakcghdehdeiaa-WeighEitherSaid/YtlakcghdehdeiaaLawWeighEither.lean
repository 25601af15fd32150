/- The law WeighEither returns true for every input, and leaves its arguments as they were. No conditions. -/
import Derived.Test.YtlakcghdehdeiaaLib19
import Derived.Test.YtlakcghdehdeiaaLib14
import Derived.Test.YtlakcghdehdeiaaLib15
import Derived.Test.YtlakcghdehdeiaaLib24
import Derived.RegionTactic
import Derived.BigRegion
import Derived.Test.YtlakcghdehdeiaaLib16
import Derived.Test.YtlakcghdehdeiaaLib21
import Derived.Test.YtlakcghdehdeiaaLib22
set_option linter.unusedVariables false
set_option linter.unusedSimpArgs false

/- The law of Tighten, walked. -/
namespace Go.Proofs.Ytlakcghdehdeiaa
open Go Go.Proofs Go.RowKit

/-- A book that the laws leave aside. -/
def AsideB (w : World) (v : Value) : Prop := ∀ w1, Below w.heap.size w w1 → Calls Try.prog 23 #[v] w1 (Ret (.bool true) w1)
theorem asideB_big (a1 a2 : Option Addr) (n1 c1 n2 c2 : Nat) (w : World) (h1 : n1 ≤ 9223372036854775807) (h2 : n2 ≤ 9223372036854775807) (hb : 40 < n1 ∨ 132 < n2) : AsideB w (.agg #[.slice a1 n1 c1, .slice a2 n2 c2]) :=
  fun w1 _ => heavy23_big a1 a2 n1 c1 n2 c2 w1 h1 h2 hb
theorem asideB_of {v1 v2 : Value} {b : Bk} {w : World} (hv : BkR w w.heap.size v1 v2 b) (h : heavyB b = true) : AsideB w (.agg #[v1, v2]) := fun w1 hb => by
  have := heavy23 v1 v2 b w1 (hv.later hb)
  rwa [h] at this

set_option maxRecDepth 100000 in
set_option maxHeartbeats 1000000 in
theorem tightens8_aside (v1 v2 : Value) (w : World) (h : AsideB w (.agg #[v1, v2])) (hs : (∃ a n c, v1 = .slice a n c) ∧ ∃ a n c, v2 = .slice a n c) :
    Calls Try.prog 8 #[.agg #[v1, v2]] w (Ret (.bool true) w) := by
  obtain ⟨⟨a1, n1, c1, rfl⟩, a2, n2, c2, rfl⟩ := hs
  have H := Lib.hid h
  clear h
  go_enter Try.func8, Try.ntmps8
  go_wp2_with fail
  refine (awake16 _).mono ?_
  rintro e w1 ⟨rfl, hb1⟩
  have HX := Lib.hid ((Box.new w #[.slice a1 n1 c1, .slice a2 n2 c2] 38).later hb1)
  have HB1 := Lib.hid (((Below.refl w.heap.size w).alloc (Nat.le_refl _) (.cells #[.slice a1 n1 c1, .slice a2 n2 c2] 38)).trans (hb1.mono (by simp)))
  clear hb1
  obtain ⟨x0, x1, xf, xz⟩ := HX.out.v2
  go_wp2_with fail
  refine (H.out _ HB1.out).mono ?_
  rintro e w2 ⟨rfl, hb2⟩
  have HB2 := Lib.hid (HB1.out.trans (hb2.mono HB1.out.size))
  clear hb2 x0 x1 xf xz
  go_wp2_with fail
  refine (awake16 _).mono ?_
  rintro e w3 ⟨rfl, hb3⟩
  have HB3 := Lib.hid (HB2.out.trans (hb3.mono HB2.out.size))
  clear hb3
  go_wp2_with fail
  go_ret
  exact ⟨rfl, HB3.out⟩

theorem ranges_ok (v r : Value) (l lr : List Rg) (e n : Int) (w : World) (hl : Sl Rg.enc 2 w w.heap.size v l) (hr : Sl Rg.enc 2 w w.heap.size r lr) (h : rangesP l e n lr) : Calls Try.prog 21 #[v, .int .i64 e, .int .i64 n, r] w (Ret (.bool true) w) := by
  have := ranges21 v r l lr e n w hl hr
  rwa [decide_eq_true h] at this

set_option maxRecDepth 100000 in
set_option maxHeartbeats 1000000 in
theorem tightens8 (v1 v2 : Value) (w : World) (b : Bk) (hv : BkR w w.heap.size v1 v2 b) (hhv : heavyB b = false) :
    Calls Try.prog 8 #[.agg #[v1, v2]] w (Ret (.bool true) w) := by
  obtain ⟨R, hR⟩ : ∃ R : Bool, R = true ↔ Con b := by
    classical
    exact ⟨decide (Con b), by simp⟩
  have H := Lib.hid (fun (w1 : World) (hb : Below w.heap.size w w1) => heavy23 v1 v2 b w1 (hv.later hb))
  have C24 := Lib.hid (fun (w1 : World) (hb : Below w.heap.size w w1) => ckBook24 v1 v2 b w1 (hv.later hb))
  have C37 := Lib.hid (fun (w1 : World) (hb : Below w.heap.size w w1) => isCon37 w1 v1 v2 b (hv.later hb))
  have C35 := Lib.hid (fun (w1 : World) (hb : Below w.heap.size w w1) => tighten35 w1 v1 v2 b (hv.later hb))
  have C31 := Lib.hid (fun (w1 : World) (hb : Below w.heap.size w w1) (hok : OkBk b) => isCon31 w1 v1 v2 b hok (hv.later hb) R hR)
  have C38 := Lib.hid (fun (w1 : World) (hb : Below w.heap.size w w1) (hok : OkBk b) (hc : Con b) => tighten38 w1 v1 v2 b hok (hv.later hb) hc)
  rw [hhv] at H
  have HR := Lib.hid hR
  clear hR hhv
  obtain ⟨⟨a1, n1, hv1, hl1, hA1⟩, ⟨a2, n2, hv2, hl2, hA2⟩, hids⟩ := hv
  subst hv1 hv2
  clear hA1 hA2 hids
  obtain ⟨CK, hCK⟩ : ∃ CK, ckBook b = CK := ⟨_, rfl⟩
  rw [hCK] at C24
  have ECK := Lib.hid hCK
  clear hCK
  go_enter Try.func8, Try.ntmps8
  go_wp2_with fail
  refine (awake16 _).mono ?_
  rintro e w1 ⟨rfl, hb1⟩
  have HX1 := Lib.hid ((Box.new w #[.slice a1 b.st.length n1, .slice a2 b.ts.length n2] 38).later hb1)
  have HB1 := Lib.hid (((Below.refl w.heap.size w).alloc (Nat.le_refl _) (.cells #[.slice a1 b.st.length n1, .slice a2 b.ts.length n2] 38)).trans (hb1.mono (by simp)))
  clear hb1
  obtain ⟨x0, x1, xf, xz⟩ := HX1.out.v2
  go_wp2_with fail
  refine (H.out _ HB1.out).mono ?_
  rintro e w2 ⟨rfl, hb2⟩
  have HX2 := Lib.hid (HX1.out.later hb2)
  have HB2 := Lib.hid (HB1.out.trans (hb2.mono HB1.out.size))
  clear hb2 x0 x1 xf xz HX1 HB1
  obtain ⟨x0, x1, xf, xz⟩ := HX2.out.v2
  go_wp2_with fail
  refine (C37.out _ HB2.out).mono ?_
  rintro e w3 ⟨ok, rfl, hb3, hok⟩
  have HX3 := Lib.hid (HX2.out.later hb3)
  have HB3 := Lib.hid (HB2.out.trans (hb3.mono HB2.out.size))
  rw [ECK.out] at hok ⊢
  have HOK := Lib.hid hok
  clear hok hb3 x0 x1 xf xz HX2 HB2
  obtain ⟨x0, x1, xf, xz⟩ := HX3.out.v2
  go_wp2_with fail
  refine (C35.out _ HB3.out).mono ?_
  rintro e w4 ⟨hb4, hor⟩
  rw [ECK.out] at hor
  have HOR := Lib.hid hor
  have HX4 := Lib.hid (HX3.out.later hb4)
  have HB4 := Lib.hid (HB3.out.trans (hb4.mono HB3.out.size))
  clear hor hb4 x0 x1 xf xz HX3 HB3
  obtain ⟨x0, x1, xf, xz⟩ := HX4.out.v2
  rcases HOR.out with ⟨h0, rfl⟩ | ⟨h0, hc, rfl⟩ | ⟨h0, hc, vt, rs, rfl, hsl, hlen, htt⟩
  · have hok : ok = false := by
      cases ok with
      | false => rfl
      | true => exact absurd (HOK.out.1 rfl).1 h0
    subst hok
    go_wp2_with fail
    refine (C24.out _ HB4.out).mono ?_
    rintro e w5 ⟨rfl, hb5⟩
    have HB5 := Lib.hid (HB4.out.trans (hb5.mono HB4.out.size))
    clear hb5 x0 x1 xf xz HX4 HB4
    have k0 : (CK == 0) = false := beq_eq_false_iff_ne.2 h0
    have k1 : (CK == CK) = true := beq_self_eq_true _
    go_wp2_with fail
    refine (ranges_ok _ _ [] [] CK CK w5 (Sl.nil _ _ _ _ _ _) (Sl.nil _ _ _ _ _ _) (by unfold rangesP; rw [if_pos h0]; exact ⟨rfl, rfl⟩)).mono ?_
    rintro e w6 ⟨rfl, hb6⟩
    have HB6 := Lib.hid (HB5.out.trans (hb6.mono HB5.out.size))
    clear hb6
    go_wp2_with fail
    go_ret
    exact ⟨rfl, HB6.out⟩
  · subst h0
    have hok : ok = R := by
      have h1 := HOK.out
      have h2 := HR.out
      cases ok <;> cases R <;> simp_all
    subst hok
    have hrf : ok = false := by
      cases ok with
      | false => rfl
      | true => exact absurd (HR.out.1 rfl) hc
    subst hrf
    go_wp2_with fail
    refine (C24.out _ HB4.out).mono ?_
    rintro e w5 ⟨rfl, hb5⟩
    have HX5 := Lib.hid (HX4.out.later hb5)
    have HB5 := Lib.hid (HB4.out.trans (hb5.mono HB4.out.size))
    clear hb5 x0 x1 xf xz HX4 HB4
    obtain ⟨x0, x1, xf, xz⟩ := HX5.out.v2
    go_wp2_with fail
    refine (C31.out _ HB5.out (okBk_of ECK.out)).mono ?_
    rintro e w6 ⟨rfl, hb6⟩
    have HB6 := Lib.hid (HB5.out.trans (hb6.mono HB5.out.size))
    clear hb6 x0 x1 xf xz HX5 HB5
    go_wp2_with fail
    refine (ranges_ok _ _ [] [] 15 15 w6 (Sl.nil _ _ _ _ _ _) (Sl.nil _ _ _ _ _ _) (by unfold rangesP; simp)).mono ?_
    rintro e w7 ⟨rfl, hb7⟩
    have HB7 := Lib.hid (HB6.out.trans (hb7.mono HB6.out.size))
    clear hb7
    go_wp2_with fail
    go_ret
    exact ⟨rfl, HB7.out⟩
  · subst h0
    have hok : ok = R := by
      have h1 := HOK.out
      have h2 := HR.out
      cases ok <;> cases R <;> simp_all
    subst hok
    have hrf : ok = true := HR.out.2 hc
    subst hrf
    have HSL4 := Lib.hid hsl
    have HTT := Lib.hid htt
    clear hsl htt
    go_wp2_with fail
    refine (C24.out _ HB4.out).mono ?_
    rintro e w5 ⟨rfl, hb5⟩
    have HX5 := Lib.hid (HX4.out.later hb5)
    have HB5 := Lib.hid (HB4.out.trans (hb5.mono HB4.out.size))
    have HSL5 := Lib.hid (HSL4.out.later hb5)
    clear hb5 x0 x1 xf xz HX4 HB4 HSL4
    obtain ⟨x0, x1, xf, xz⟩ := HX5.out.v2
    go_wp2_with fail
    refine (C31.out _ HB5.out (okBk_of ECK.out)).mono ?_
    rintro e w6 ⟨rfl, hb6⟩
    have HX6 := Lib.hid (HX5.out.later hb6)
    have HB6 := Lib.hid (HB5.out.trans (hb6.mono HB5.out.size))
    have HSL6 := Lib.hid (HSL5.out.later hb6)
    clear hb6 x0 x1 xf xz HX5 HB5 HSL5
    obtain ⟨x0, x1, xf, xz⟩ := HX6.out.v2
    go_wp2_with fail
    refine (C38.out _ HB6.out (okBk_of ECK.out) hc).mono ?_
    rintro e w7 ⟨vt2, rs2, rfl, hsl2, hlen2, htt2, hb7⟩
    have hrr : rs2 = rs := TightS.unique (tightS_of (okBk_of ECK.out) hlen HTT.out) (tightS_of (okBk_of ECK.out) hlen2 htt2)
    subst hrr
    have HB7 := Lib.hid (HB6.out.trans (hb7.mono HB6.out.size))
    have HSL7 := Lib.hid (HSL6.out.later hb7)
    have HSL2 := Lib.hid hsl2
    clear hb7 hsl2 htt2 x0 x1 xf xz HX6 HB6 HSL6
    go_wp2_with fail
    refine (ranges_ok _ _ rs2 rs2 0 0 w7 HSL7.out HSL2.out (by unfold rangesP; simp)).mono ?_
    rintro e w8 ⟨rfl, hb8⟩
    have HB8 := Lib.hid (HB7.out.trans (hb8.mono HB7.out.size))
    clear hb8
    go_wp2_with fail
    go_ret
    exact ⟨rfl, HB8.out⟩
end Go.Proofs.Ytlakcghdehdeiaa

/- The law of Minimal, walked. -/
namespace Go.Proofs.Ytlakcghdehdeiaa
open Go Go.Proofs Go.RowKit Go.WideShapes

theorem okWide_cap {P : Program} {w : World} {r : Reach} {base : Nat} {t e : TypeId} {a : Option Addr} {n c : Nat} (ht : P.underlying t = some (.slice e)) (h : Value.okWide P w r base t (.slice a n c)) : n ≤ c := by
  simp only [Value.okWide, ht, Cell.okWide] at h
  cases a with
  | none => cases n <;> cases c <;> simp_all [Cell.ok]
  | some a => simp only [Cell.ok, ht] at h; exact h.1
theorem isMinI_out {b : Bk} {l : List Nat} : IsMinI b (outI l) ↔ IsMinL b l := by
  unfold IsMinI IsMinL ConL
  rw [kI_out]
  have hl : (outI l).length = l.length := by simp
  refine and_congr Iff.rfl ⟨fun h j hj => ?_, fun h j hj => ?_⟩
  · have := h j (by rw [hl]; exact hj)
    rwa [lessOf_out, kI_out] at this
  · have := h j (by rw [hl] at hj; exact hj)
    rwa [lessOf_out, kI_out]
def cmR (b : Bk) (L : List Int) (R2 : Bool) : Int := if cmE b L ≠ 0 then cmE b L else if R2 then 0 else 18
theorem ckMin48r (w : World) (v1 v2 u : Value) (b : Bk) (L : List Int) (hv : BkR w w.heap.size v1 v2 b) (hu : Sl encI 1 w w.heap.size u L) (R2 : Bool) (hR2 : R2 = true ↔ IsMinI b L) :
    Calls Try.prog 48 #[.agg #[v1, v2], u] w (Ret (.int .i64 (cmR b L R2)) w) := by
  refine (ckMin48 w v1 v2 u b L hv hu).mono ?_
  rintro e w' ⟨hb, h | ⟨h0, l, rfl, hl, hn, h⟩⟩
  · refine ⟨?_, hb⟩
    rw [h.2, cmR, if_pos h.1]
  · refine ⟨?_, hb⟩
    rw [cmR, if_neg (by rw [h0]; simp)]
    rcases h with ⟨h1, h2⟩ | ⟨h1, h2⟩
    · rw [if_pos (hR2.2 (isMinI_out.2 h1))]; exact h2
    · rw [if_neg (fun h => h1 (isMinI_out.1 (hR2.1 h)))]; exact h2

set_option maxRecDepth 100000 in
set_option maxHeartbeats 1000000 in
theorem minimal13_aside (v1 v2 : Value) (a : Option Addr) (n c : Nat) (w : World) (h : AsideB w (.agg #[v1, v2])) (hs : (∃ a n c, v1 = .slice a n c) ∧ ∃ a n c, v2 = .slice a n c) :
    Calls Try.prog 13 #[.agg #[v1, v2], .slice a n c] w (Ret (.bool true) w) := by
  obtain ⟨⟨a1, n1, c1, rfl⟩, a2, n2, c2, rfl⟩ := hs
  have H := Lib.hid h
  clear h
  go_enter Try.func13, Try.ntmps13
  go_wp2_with fail
  refine (awake16 _).mono ?_
  rintro e w1 ⟨rfl, hb1⟩
  have HX := Lib.hid ((Box.new w #[.slice a1 n1 c1, .slice a2 n2 c2] 38).later hb1)
  have HB1 := Lib.hid (((Below.refl w.heap.size w).alloc (Nat.le_refl _) (.cells #[.slice a1 n1 c1, .slice a2 n2 c2] 38)).trans (hb1.mono (by simp)))
  clear hb1
  obtain ⟨x0, x1, xf, xz⟩ := HX.out.v2
  go_wp2_with fail
  refine (H.out _ HB1.out).mono ?_
  rintro e w2 ⟨rfl, hb2⟩
  have HB2 := Lib.hid (HB1.out.trans (hb2.mono HB1.out.size))
  clear hb2 x0 x1 xf xz
  go_wp2_with fail
  refine (awake16 _).mono ?_
  rintro e w3 ⟨rfl, hb3⟩
  have HB3 := Lib.hid (HB2.out.trans (hb3.mono HB2.out.size))
  clear hb3
  go_wp2_with fail
  go_ret
  exact ⟨rfl, HB3.out⟩

set_option maxRecDepth 100000 in
set_option maxHeartbeats 1000000 in
theorem minimal13_many (v1 v2 : Value) (a : Option Addr) (n c : Nat) (w : World) (b : Bk) (hv : BkR w w.heap.size v1 v2 b) (hhv : heavyB b = false) (hn : n ≤ 9223372036854775807) (hbig : 20 < n) :
    Calls Try.prog 13 #[.agg #[v1, v2], .slice a n c] w (Ret (.bool true) w) := by
  have H := Lib.hid (fun (w1 : World) (hb : Below w.heap.size w w1) => heavy23 v1 v2 b w1 (hv.later hb))
  rw [hhv] at H
  obtain ⟨⟨a1, n1, hv1, hl1, hA1⟩, ⟨a2, n2, hv2, hl2, hA2⟩, hids⟩ := hv
  subst hv1 hv2
  clear hA1 hA2 hids hhv
  have hb20 : decide ((20 : Int) < (n : Int)) = true := decide_eq_true (by omega)
  go_enter Try.func13, Try.ntmps13
  go_wp2_with fail
  refine (awake16 _).mono ?_
  rintro e w1 ⟨rfl, hb1⟩
  have HX := Lib.hid ((Box.new w #[.slice a1 b.st.length n1, .slice a2 b.ts.length n2] 38).later hb1)
  have HB1 := Lib.hid (((Below.refl w.heap.size w).alloc (Nat.le_refl _) (.cells #[.slice a1 b.st.length n1, .slice a2 b.ts.length n2] 38)).trans (hb1.mono (by simp)))
  clear hb1
  obtain ⟨x0, x1, xf, xz⟩ := HX.out.v2
  go_wp2_with fail
  refine (H.out _ HB1.out).mono ?_
  rintro e w2 ⟨rfl, hb2⟩
  have HB2 := Lib.hid (HB1.out.trans (hb2.mono HB1.out.size))
  clear hb2 x0 x1 xf xz
  go_wp2_with fail
  refine (awake16 _).mono ?_
  rintro e w3 ⟨rfl, hb3⟩
  have HB3 := Lib.hid (HB2.out.trans (hb3.mono HB2.out.size))
  clear hb3
  go_wp2_with fail
  go_ret
  exact ⟨rfl, HB3.out⟩

set_option maxRecDepth 100000 in
set_option maxHeartbeats 1000000 in
theorem minimal13 (v1 v2 : Value) (a3 : Option Addr) (n3 : Nat) (w : World) (b : Bk) (ps : List Int) (hv : BkR w w.heap.size v1 v2 b) (hu : Sl encI 1 w w.heap.size (.slice a3 ps.length n3) ps) (hc3 : ps.length ≤ n3) (hhv : heavyB b = false) (hpl : ps.length ≤ 20) :
    Calls Try.prog 13 #[.agg #[v1, v2], .slice a3 ps.length n3] w (Ret (.bool true) w) := by
  obtain ⟨R, hR⟩ : ∃ R : Bool, R = true ↔ Con b := by
    classical
    exact ⟨decide (Con b), by simp⟩
  obtain ⟨R2, hR2⟩ : ∃ R : Bool, R = true ↔ IsMinI b ps := by
    classical
    exact ⟨decide (IsMinI b ps), by simp⟩
  have H := Lib.hid (fun (w1 : World) (hb : Below w.heap.size w w1) => heavy23 v1 v2 b w1 (hv.later hb))
  have C24 := Lib.hid (fun (w1 : World) (hb : Below w.heap.size w w1) => ckBook24 v1 v2 b w1 (hv.later hb))
  have C47 := Lib.hid (fun (w1 : World) (hb : Below w.heap.size w w1) => minimal47 w1 v1 v2 b (hv.later hb))
  have C48 := Lib.hid (fun (w1 : World) (hb : Below w.heap.size w w1) => ckMin48r w1 v1 v2 _ b ps (hv.later hb) (hu.later hb) R2 hR2)
  have C30 := Lib.hid (fun (w1 : World) (hb : Below w.heap.size w w1) => ckNums30 _ ps b.ts.length w1 (hu.later hb))
  have C31 := Lib.hid (fun (w1 : World) (hb : Below w.heap.size w w1) (hok : OkBk b) => isCon31 w1 v1 v2 b hok (hv.later hb) R hR)
  have C50 := Lib.hid (fun (w1 : World) (hb : Below w.heap.size w w1) (hok : OkBk b) => minimal50 w1 v1 v2 b hok (hv.later hb))
  have C51 := Lib.hid (fun (w1 : World) (hb : Below w.heap.size w w1) (hok : OkBk b) => isMin51 w1 v1 v2 a3 n3 b ps hok (hv.later hb) hc3 (by omega) (hu.later hb) R2 hR2)
  rw [hhv] at H
  have HR := Lib.hid hR
  have HR2 := Lib.hid hR2
  clear hR hR2 hhv hc3
  obtain ⟨⟨a1, n1, hv1, hl1, hA1⟩, ⟨a2, n2, hv2, hl2, hA2⟩, hids⟩ := hv
  subst hv1 hv2
  clear hA1 hA2 hids hu
  obtain ⟨CK, hCK⟩ : ∃ CK, ckBook b = CK := ⟨_, rfl⟩
  obtain ⟨CN, hCN⟩ : ∃ CN, ckNums ps b.ts.length = CN := ⟨_, rfl⟩
  obtain ⟨CC, hCC⟩ : ∃ CC, cmR b ps R2 = CC := ⟨_, rfl⟩
  have hCE : cmE b ps = firstNZ [CK, CN] := by unfold cmE; rw [hCK, hCN]
  have HCC : Hid (CC = if firstNZ [CK, CN] ≠ 0 then firstNZ [CK, CN] else if R2 then 0 else 18) := Lib.hid (by rw [← hCC, ← hCE]; rfl)
  obtain ⟨m, hm⟩ : ∃ m, b.ts.length = m := ⟨_, rfl⟩
  obtain ⟨m1, hm1⟩ : ∃ m, b.st.length = m := ⟨_, rfl⟩
  rw [hCK] at C24
  rw [hCN, hm] at C30
  rw [hCC] at C48
  rw [hm, hm1] at C47 C48 C31 C50 C51 C24 H ⊢
  rw [hm] at hl2
  rw [hm1] at hl1
  have ECK := Lib.hid hCK
  have ECN := Lib.hid hCN
  clear hCK hCN hCE hCC hm hm1
  have hb20 : decide ((20 : Int) < (ps.length : Int)) = false := decide_eq_false (by omega)
  go_enter Try.func13, Try.ntmps13
  go_wp2_with fail
  refine (awake16 _).mono ?_
  rintro e w1 ⟨rfl, hb1⟩
  have HX1 := Lib.hid ((Box.new w #[.slice a1 m1 n1, .slice a2 m n2] 38).later hb1)
  have HB1 := Lib.hid (((Below.refl w.heap.size w).alloc (Nat.le_refl _) (.cells #[.slice a1 m1 n1, .slice a2 m n2] 38)).trans (hb1.mono (by simp)))
  clear hb1
  obtain ⟨x0, x1, xf, xz⟩ := HX1.out.v2
  go_wp2_with fail
  refine (H.out _ HB1.out).mono ?_
  rintro e w2 ⟨rfl, hb2⟩
  have HX2 := Lib.hid (HX1.out.later hb2)
  have HB2 := Lib.hid (HB1.out.trans (hb2.mono HB1.out.size))
  clear hb2 x0 x1 xf xz HX1 HB1
  obtain ⟨x0, x1, xf, xz⟩ := HX2.out.v2
  go_wp2_with fail
  refine (C24.out _ HB2.out).mono ?_
  rintro e w3 ⟨rfl, hb3⟩
  have HX3 := Lib.hid (HX2.out.later hb3)
  have HB3 := Lib.hid (HB2.out.trans (hb3.mono HB2.out.size))
  clear hb3 x0 x1 xf xz HX2 HB2
  obtain ⟨x0, x1, xf, xz⟩ := HX3.out.v2
  by_cases h0 : CK = 0
  · subst h0
    by_cases hq1 : 6 < m1
    · have b1 : decide ((6 : Int) < (m1 : Int)) = true := decide_eq_true (by omega)
      go_wp2_with fail
      go_ret
      exact ⟨rfl, HB3.out⟩
    · have b1 : decide ((6 : Int) < (m1 : Int)) = false := decide_eq_false (by omega)
      by_cases hq2 : 7 < m
      · have b2 : decide ((7 : Int) < (m : Int)) = true := decide_eq_true (by omega)
        go_wp2_with fail
        go_ret
        exact ⟨rfl, HB3.out⟩
      · have b2 : decide ((7 : Int) < (m : Int)) = false := decide_eq_false (by omega)
        go_wp2_with fail
        refine (C47.out _ HB3.out).mono ?_
        rintro e w4 ⟨hb4, hor⟩
        rw [ECK.out] at hor
        have HX4 := Lib.hid (HX3.out.later hb4)
        have HB4 := Lib.hid (HB3.out.trans (hb4.mono HB3.out.size))
        clear hb4 x0 x1 xf xz HX3 HB3
        obtain ⟨x0, x1, xf, xz⟩ := HX4.out.v2
        rcases hor with ⟨hx, _⟩ | ⟨_, hc, rfl⟩ | ⟨_, hnc, vl, rfl, hsl⟩
        · exact absurd rfl hx
        · have hrt : R = true := HR.out.2 hc
          subst hrt
          go_wp2_with fail
          refine (C48.out _ HB4.out).mono ?_
          rintro e w5 ⟨rfl, hb5⟩
          have HX5 := Lib.hid (HX4.out.later hb5)
          have HB5 := Lib.hid (HB4.out.trans (hb5.mono HB4.out.size))
          clear hb5 x0 x1 xf xz HX4 HB4
          obtain ⟨x0, x1, xf, xz⟩ := HX5.out.v2
          go_wp2_with fail
          refine (C31.out _ HB5.out (okBk_of ECK.out)).mono ?_
          rintro e w6 ⟨rfl, hb6⟩
          have HX6 := Lib.hid (HX5.out.later hb6)
          have HB6 := Lib.hid (HB5.out.trans (hb6.mono HB5.out.size))
          clear hb6 x0 x1 xf xz HX5 HB5
          obtain ⟨x0, x1, xf, xz⟩ := HX6.out.v2
          go_wp2_with fail
          refine (C30.out _ HB6.out).mono ?_
          rintro e w7 ⟨rfl, hb7⟩
          have HX7 := Lib.hid (HX6.out.later hb7)
          have HB7 := Lib.hid (HB6.out.trans (hb7.mono HB6.out.size))
          clear hb7 x0 x1 xf xz HX6 HB6
          obtain ⟨x0, x1, xf, xz⟩ := HX7.out.v2
          by_cases hn0 : CN = 0
          · subst hn0
            go_wp2_with fail
            refine (C51.out _ HB7.out (okBk_of ECK.out)).mono ?_
            rintro e w8 ⟨rfl, hb8⟩
            have HX8 := Lib.hid (HX7.out.later hb8)
            have HB8 := Lib.hid (HB7.out.trans (hb8.mono HB7.out.size))
            clear hb8 x0 x1 xf xz HX7 HB7
            obtain ⟨x0, x1, xf, xz⟩ := HX8.out.v2
            cases R2 with
            | true =>
              have hcc : CC = 0 := by rw [HCC.out]; simp [firstNZ]
              subst hcc
              go_wp2_with fail
              refine (when27 false 18 _).mono ?_
              rintro e wz ⟨rfl, rfl⟩
              simp only [whenB]
              go_wp2_with fail
              go_ret
              exact ⟨rfl, HB8.out⟩
            | false =>
              have hcc : CC = 18 := by rw [HCC.out]; simp [firstNZ]
              subst hcc
              go_wp2_with fail
              refine (when27 true 18 _).mono ?_
              rintro e wz ⟨rfl, rfl⟩
              simp only [whenB]
              go_wp2_with fail
              go_ret
              exact ⟨rfl, HB8.out⟩
          · have hcc : CC = CN := by rw [HCC.out]; simp [firstNZ, hn0]
            subst hcc
            have k1 : (CC == 0) = false := beq_eq_false_iff_ne.2 hn0
            have k2 : (CC == CC) = true := beq_self_eq_true _
            go_wp2_with fail
            go_ret
            exact ⟨rfl, HB7.out⟩
        · have hrf : R = false := by
            cases R with
            | false => rfl
            | true => exact absurd (HR.out.1 rfl) hnc
          subst hrf
          have HS4 := Lib.hid hsl
          clear hsl
          go_wp2_with fail
          refine (C48.out _ HB4.out).mono ?_
          rintro e w5 ⟨rfl, hb5⟩
          have HX5 := Lib.hid (HX4.out.later hb5)
          have HB5 := Lib.hid (HB4.out.trans (hb5.mono HB4.out.size))
          have HS5 := Lib.hid (HS4.out.later hb5)
          clear hb5 x0 x1 xf xz HX4 HB4 HS4
          obtain ⟨x0, x1, xf, xz⟩ := HX5.out.v2
          go_wp2_with fail
          refine (C31.out _ HB5.out (okBk_of ECK.out)).mono ?_
          rintro e w6 ⟨rfl, hb6⟩
          have HX6 := Lib.hid (HX5.out.later hb6)
          have HB6 := Lib.hid (HB5.out.trans (hb6.mono HB5.out.size))
          have HS6 := Lib.hid (HS5.out.later hb6)
          clear hb6 x0 x1 xf xz HX5 HB5 HS5
          obtain ⟨x0, x1, xf, xz⟩ := HX6.out.v2
          go_wp2_with fail
          refine (C50.out _ HB6.out (okBk_of ECK.out)).mono ?_
          rintro e w7 ⟨v50, rfl, hs50, hb7⟩
          have HQ7 := Lib.hid hs50
          clear hs50
          have HX7 := Lib.hid (HX6.out.later hb7)
          have HB7 := Lib.hid (HB6.out.trans (hb7.mono HB6.out.size))
          have HS7 := Lib.hid (HS6.out.later hb7)
          clear hb7 x0 x1 xf xz HX6 HB6 HS6
          obtain ⟨x0, x1, xf, xz⟩ := HX7.out.v2
          go_wp2_with fail
          refine (sameInts49 _ _ _ _ _ HS7.out HQ7.out).mono ?_
          rintro e w8 ⟨rfl, hb8⟩
          rw [decide_eq_true (rfl : minOf b = minOf b)]
          have HX8 := Lib.hid (HX7.out.later hb8)
          have HB8 := Lib.hid (HB7.out.trans (hb8.mono HB7.out.size))
          have HS8 := Lib.hid (HS7.out.later hb8)
          have HQ8 := Lib.hid (HQ7.out.later hb8)
          clear hb8 x0 x1 xf xz HX7 HB7 HS7 HQ7
          obtain ⟨x0, x1, xf, xz⟩ := HX8.out.v2
          clear HS8 HQ8
          go_wp2_with fail
          refine (C30.out _ HB8.out).mono ?_
          rintro e w9 ⟨rfl, hb9⟩
          have HX9 := Lib.hid (HX8.out.later hb9)
          have HB9 := Lib.hid (HB8.out.trans (hb9.mono HB8.out.size))
          clear hb9 x0 x1 xf xz HX8 HB8
          obtain ⟨x0, x1, xf, xz⟩ := HX9.out.v2
          by_cases hn0 : CN = 0
          · subst hn0
            go_wp2_with fail
            refine (C51.out _ HB9.out (okBk_of ECK.out)).mono ?_
            rintro e w10 ⟨rfl, hb10⟩
            have HX10 := Lib.hid (HX9.out.later hb10)
            have HB10 := Lib.hid (HB9.out.trans (hb10.mono HB9.out.size))
            clear hb10 x0 x1 xf xz HX9 HB9
            obtain ⟨x0, x1, xf, xz⟩ := HX10.out.v2
            cases R2 with
            | true =>
              have hcc : CC = 0 := by rw [HCC.out]; simp [firstNZ]
              subst hcc
              go_wp2_with fail
              refine (when27 false 18 _).mono ?_
              rintro e wz ⟨rfl, rfl⟩
              simp only [whenB]
              go_wp2_with fail
              go_ret
              exact ⟨rfl, HB10.out⟩
            | false =>
              have hcc : CC = 18 := by rw [HCC.out]; simp [firstNZ]
              subst hcc
              go_wp2_with fail
              refine (when27 true 18 _).mono ?_
              rintro e wz ⟨rfl, rfl⟩
              simp only [whenB]
              go_wp2_with fail
              go_ret
              exact ⟨rfl, HB10.out⟩
          · have hcc : CC = CN := by rw [HCC.out]; simp [firstNZ, hn0]
            subst hcc
            have k1 : (CC == 0) = false := beq_eq_false_iff_ne.2 hn0
            have k2 : (CC == CC) = true := beq_self_eq_true _
            go_wp2_with fail
            go_ret
            exact ⟨rfl, HB9.out⟩
  · have k1 : (CK == 0) = false := beq_eq_false_iff_ne.2 h0
    have k2 : (CK == CK) = true := beq_self_eq_true _
    have hcc : CC = CK := by rw [HCC.out]; simp [firstNZ, h0]
    subst hcc
    go_wp2_with fail
    refine (C47.out _ HB3.out).mono ?_
    rintro e w4 ⟨hb4, hor⟩
    rw [ECK.out] at hor
    rcases hor with ⟨_, rfl⟩ | ⟨hx, _⟩ | ⟨hx, _⟩
    rotate_left
    · exact absurd hx h0
    · exact absurd hx h0
    have HX4 := Lib.hid (HX3.out.later hb4)
    have HB4 := Lib.hid (HB3.out.trans (hb4.mono HB3.out.size))
    clear hb4 x0 x1 xf xz HX3 HB3
    obtain ⟨x0, x1, xf, xz⟩ := HX4.out.v2
    go_wp2_with fail
    refine (C48.out _ HB4.out).mono ?_
    rintro e w5 ⟨rfl, hb5⟩
    have HX5 := Lib.hid (HX4.out.later hb5)
    have HB5 := Lib.hid (HB4.out.trans (hb5.mono HB4.out.size))
    clear hb5 x0 x1 xf xz HX4 HB4
    obtain ⟨x0, x1, xf, xz⟩ := HX5.out.v2
    go_wp2_with fail
    go_ret
    exact ⟨rfl, HB5.out⟩
end Go.Proofs.Ytlakcghdehdeiaa

/- The law of narrower books, its main walk. -/
namespace Go.Proofs.Ytlakcghdehdeiaa
open Go Go.Proofs Go.RowKit

set_option maxRecDepth 100000 in
set_option maxHeartbeats 1000000 in
theorem narrows10 (v1 v2 : Value) (x1 x2 : Int) (b : Bk) (w : World) (hv : BkR w w.heap.size v1 v2 b) (hlt : lightB b = true) (h0 : 0 < b.ts.length) (hx1 : 0 ≤ x1 ∧ x1 ≤ 255) (hx2 : 0 ≤ x2 ∧ x2 ≤ 255) :
    Calls Try.prog 10 #[.agg #[v1, v2], .int .u8 x1, .int .u8 x2] w (Ret (.bool true) w) := by
  have hl := hlt
  simp only [lightB, decide_eq_true_eq] at hl
  obtain ⟨hl6, hl8, hck⟩ := hl
  have H := Lib.hid (fun (w1 : World) (hb : Below w.heap.size w w1) => light34 v1 v2 b w1 (hv.later hb))
  rw [hlt] at H
  have HCK := Lib.hid hck
  have HV := Lib.hid (fun (w1 : World) (hb : Below w.heap.size w w1) => hv.later hb)
  have HID := Lib.hid hv.ids
  obtain ⟨i, hi⟩ : ∃ i : Nat, x1 % (b.ts.length : Int) = i := ⟨(x1 % (b.ts.length : Int)).toNat, by have := Int.emod_nonneg x1 (show (b.ts.length : Int) ≠ 0 by omega); omega⟩
  have him : i < b.ts.length := by have := Int.emod_lt_of_pos x1 (show (0 : Int) < b.ts.length by omega); omega
  have HC42 := Lib.hid (fun (w1 : World) (hb : Below w.heap.size w w1) (q : Rg) => changed42 w1 v1 v2 b i q (hv.later hb) him (by omega))
  have HT := Lib.hid (fun (w1 : World) (hb : Below w.heap.size w w1) => tight_p w1 v1 v2 b (hv.later hb) hck)
  have hmass := (okBk_of hck).tk b.ts[i] (List.getElem_mem him)
  obtain ⟨t, ht⟩ : ∃ t, b.ts[i] = t := ⟨_, rfl⟩
  rw [ht] at hmass
  have HTI := Lib.hid ht
  obtain ⟨⟨a1, n1, hv1, hl1, hA1⟩, ⟨a2, n2, hv2, hl2, hA2⟩, hids⟩ := hv
  subst hv1 hv2
  obtain ⟨bb, off, rfl, hbb, hcells⟩ := hA2 h0
  have HCE := Lib.hid (fun (W : World) (hb : Below w.heap.size w W) => (hcells i him).below hb hbb)
  rw [ht] at HCE
  obtain ⟨tid, tfr, tto, lo, hh⟩ := t
  dsimp only at hmass
  obtain ⟨_, _, _, _, _, m1, m2, m3⟩ := hmass
  clear hA1 hA2 hids hlt hck ht hcells
  obtain ⟨a, ha⟩ : ∃ a, x2 % 9 = a := ⟨_, rfl⟩
  have ha0 : 0 ≤ a ∧ a ≤ 8 := by omega
  obtain ⟨ha0, ha8⟩ := ha0
  have hp0 : 0 ≤ (hh - lo) * a := Int.mul_nonneg (by omega) (by omega)
  have hp1 : (hh - lo) * a ≤ 999999999 * 8 := Int.mul_le_mul (by omega) (by omega) (by omega) (by omega)
  have hpart := part_in m2 ⟨ha0, ha8⟩
  obtain ⟨mid, hmid⟩ : ∃ mid, lo + (hh - lo) * a / 8 = mid := ⟨_, rfl⟩
  rw [hmid] at hpart
  obtain ⟨hp2, hp3⟩ := hpart
  have hne : ((b.ts.length : Int) == 0) = false := beq_eq_false_iff_ne.2 (by omega)
  go_enter Try.func10, Try.ntmps10
  go_wp2_with fail
  refine (awake16 _).mono ?_
  rintro e w1 ⟨rfl, hb1⟩
  have HX := Lib.hid ((Box.new w #[.slice a1 b.st.length n1, .slice (some ⟨bb, off, none⟩) b.ts.length n2] 38).later hb1)
  have HB1 := Lib.hid (((Below.refl w.heap.size w).alloc (Nat.le_refl _) (.cells #[.slice a1 b.st.length n1, .slice (some ⟨bb, off, none⟩) b.ts.length n2] 38)).trans (hb1.mono (by simp)))
  clear hb1
  obtain ⟨y0, y1, yf, yz⟩ := HX.out.v2
  go_wp2_with fail
  refine (H.out _ HB1.out).mono ?_
  rintro e w2 ⟨rfl, hb2⟩
  have HB2 := Lib.hid (HB1.out.trans (hb2.mono HB1.out.size))
  have HX2 := Lib.hid (HX.out.later hb2)
  clear hb2 y0 y1 yf yz HX HB1
  obtain ⟨y0, y1, yf, yz⟩ := HX2.out.v2
  obtain ⟨z0, z1, z2, z3, z4⟩ := (HCE.out _ HB2.out).c5
  go_wp2_with fail
  rw [hi]
  have hba : Below w2.heap.size w2 (w2.alloc (.cells #[.int .i64 lo, .int .i64 hh] 24)) := (Below.refl _ _).alloc (Nat.le_refl _) _
  have HR3 := Lib.hid (Box.new w2 #[.int .i64 lo, .int .i64 hh] 24)
  have HB3 := Lib.hid (HB2.out.trans (hba.mono HB2.out.size))
  have HX3 := Lib.hid (HX2.out.later hba)
  generalize w2.alloc (.cells #[.int .i64 lo, .int .i64 hh] 24) = w3 at *
  generalize w2.heap.size = P8 at *
  clear hba y0 y1 yf yz z0 z1 z2 z3 z4 HX2 HB2 hmid hp0 hp1
  refine (HC42.out _ HB3.out ⟨lo, mid⟩).mono ?_
  rintro e w4 ⟨v4, rfl, hbk, hb⟩
  have HB4 := Lib.hid (HB3.out.trans (hb.mono HB3.out.size))
  have HX4 := Lib.hid (HX3.out.later hb)
  have HR4 := Lib.hid (HR3.out.later hb)
  have HNB4 := Lib.hid hbk
  obtain ⟨a4, c4, rfl, _, _⟩ := hbk.ts
  have hnl : (b.ch i ⟨lo, mid⟩).ts.length = b.ts.length := chT_len _ _ _
  rw [hnl] at HNB4 ⊢
  clear hb hbk HX3 HB3 HR3 hnl
  obtain ⟨y0, y1, yf, yz⟩ := HX4.out.v2
  go_wp2_with fail
  have hba : Below w4.heap.size w4 (w4.alloc (.cells #[.slice a1 b.st.length n1, .slice a4 b.ts.length c4] 38)) := (Below.refl _ _).alloc (Nat.le_refl _) _
  have HN5 := Lib.hid (Box.new w4 #[.slice a1 b.st.length n1, .slice a4 b.ts.length c4] 38)
  have HB5 := Lib.hid (HB4.out.trans (hba.mono HB4.out.size))
  have HX5 := Lib.hid (HX4.out.later hba)
  have HR5 := Lib.hid (HR4.out.later hba)
  have HNB5 := Lib.hid (HNB4.out.later hba)
  generalize w4.alloc (.cells #[.slice a1 b.st.length n1, .slice a4 b.ts.length c4] 38) = w5 at *
  generalize w4.heap.size = P10 at *
  clear hba y0 y1 yf yz HX4 HB4 HR4 HNB4
  refine (HT.out _ HB5.out).mono ?_
  rintro e w6 ⟨hb, hor⟩
  have HOR := Lib.hid hor
  have HB6 := Lib.hid (HB5.out.trans (hb.mono HB5.out.size))
  have HX6 := Lib.hid (HX5.out.later hb)
  have HR6 := Lib.hid (HR5.out.later hb)
  have HN6 := Lib.hid (HN5.out.later hb)
  have HNB6 := Lib.hid (HNB5.out.later hb)
  clear hb HX5 HB5 HR5 HN5 HNB5 hor
  have e0 : (b.ts[i]).m.lo = lo := by rw [HTI.out]
  have e1 : (b.ts[i]).m.hi = hh := by rw [HTI.out]
  have HCKN : Hid (ckBook (b.ch i ⟨lo, mid⟩) = 0) := Lib.hid (by rw [← e0]; exact nar_ck HCK.out him (by omega) (by omega))
  have HT2 := Lib.hid (fun (w1 : World) hv => tight_p w1 (.slice a1 b.st.length n1) (.slice a4 b.ts.length c4) (b.ch i ⟨lo, mid⟩) hv HCKN.out)
  rcases HOR.out with ⟨hnc, rfl⟩ | ⟨hcon, at', ct, rs, rfl, hsl, hts⟩
  · have HNC : Hid (¬ Con (b.ch i ⟨lo, mid⟩)) := Lib.hid (by rw [← e0]; exact nar_con1 HCK.out him (by omega) (by omega) hnc)
    clear hnc e0 e1
    obtain ⟨y0, y1, yf, yz⟩ := HX6.out.v2
    obtain ⟨u0, u1, uf, uz⟩ := HN6.out.v2
    go_wp2_with fail
    refine (HT2.out _ HNB6.out).mono ?_
    rintro e w7 ⟨hb, ⟨_, rfl⟩ | ⟨hc, _⟩⟩
    · have HB7 := Lib.hid (HB6.out.trans (hb.mono HB6.out.size))
      clear hb
      go_wp2_with fail
      go_ret
      exact ⟨rfl, HB7.out⟩
    · exact absurd hc HNC.out
  · have hlen : i < rs.length := by rw [hts.len]; exact him
    have HC2 : Hid (Con (b.ch i ⟨lo, mid⟩) ↔ rs[i].lo ≤ mid) := Lib.hid (by rw [← e0]; exact nar_con2 HCK.out him (by omega) (by omega) hts hlen)
    have hin := nar_in him hts hlen
    rw [e0, e1] at hin
    have HTS := Lib.hid hts
    have HSL6 := Lib.hid hsl
    have HMC := Lib.hid (fun x h1 h2 => mid_con w HCK.out HID.out hts hlen (x := x) h1 h2)
    have HAL : Hid (∀ us, TightS (b.ch i ⟨lo, mid⟩) us → ∀ (k : Nat) (hk : k < rs.length) (hk2 : k < us.length), rs[k].lo ≤ us[k].lo ∧ us[k].hi ≤ rs[k].hi ∧ us[k].lo ≤ us[k].hi) := Lib.hid (fun us hus k hk hk2 => by rw [← e0] at hus; exact nar_all him (by omega) hts hus k hk hk2)
    have HMI : Hid (∀ us, TightS (b.ch i ⟨lo, mid⟩) us → rs[i].lo ≤ mid → ∀ (hiu : i < us.length), us[i].hi = min mid rs[i].hi) := Lib.hid (fun us hus hm hiu => by rw [← e0] at hus; exact nar_min w HCK.out HID.out him (by omega) hts hlen hm hus hiu)
    obtain ⟨ri, hri⟩ : ∃ r, rs[i] = r := ⟨_, rfl⟩
    have HRI := Lib.hid hri
    rw [hri] at hin
    rw [hri] at HC2 HMC HMI
    obtain ⟨tl, th⟩ := ri
    dsimp only at hin
    obtain ⟨q1, q2, q3⟩ := hin
    clear hts hsl hri e0 e1 hcon HOR
    obtain ⟨y0, y1, yf, yz⟩ := HX6.out.v2
    obtain ⟨u0, u1, uf, uz⟩ := HN6.out.v2
    have p0 : 0 ≤ (th - tl) * a := Int.mul_nonneg (by omega) (by omega)
    have p1 : (th - tl) * a ≤ 999999999 * 8 := Int.mul_le_mul (by omega) (by omega) (by omega) (by omega)
    have pp := part_in q2 ⟨ha0, ha8⟩
    obtain ⟨inn, hinn⟩ : ∃ inn, tl + (th - tl) * a / 8 = inn := ⟨_, rfl⟩
    rw [hinn] at pp
    obtain ⟨pp0, pp1⟩ := pp
    have HP0 := Lib.hid p0
    have HP1 := Lib.hid p1
    have HINN := Lib.hid hinn
    have HA := Lib.hid ha
    clear p0 p1 hinn ha
    have HMC2 := Lib.hid (HMC.out inn pp0 pp1)
    have HC42b := Lib.hid (fun w1 hb => HC42.out w1 hb ⟨inn, inn⟩)
    have HCKI : Hid (ckBook (b.ch i ⟨inn, inn⟩) = 0) := Lib.hid (ch_ck HCK.out him (by dsimp only; omega))
    go_wp2_with fail
    refine (HT2.out _ HNB6.out).mono ?_
    rintro e w7 ⟨hb, hor⟩
    have HOR2 := Lib.hid hor
    have HB7 := Lib.hid (HB6.out.trans (hb.mono HB6.out.size))
    have HX7 := Lib.hid (HX6.out.later hb)
    have HR7 := Lib.hid (HR6.out.later hb)
    have HSL7 := Lib.hid (HSL6.out.later hb)
    clear hb y0 y1 yf yz u0 u1 uf uz HX6 HB6 HR6 HN6 HNB6 HSL6 hor
    obtain ⟨_, _, e3, _, hA⟩ := HSL7.out
    obtain ⟨bt, ot, e4, hbt, htc⟩ := hA (by omega)
    injection e3 with e5 e6 e7
    subst e5
    subst e4
    clear e6 e7 hA
    have hcc := htc i hlen
    rw [HRI.out] at hcc
    obtain ⟨c0, c1⟩ := hcc.c2
    clear htc hcc
    obtain ⟨y0, y1, yf, yz⟩ := HX7.out.v2
    obtain ⟨r0, r1, rf, rz⟩ := HR7.out.v2
    rcases HOR2.out with ⟨hnc, rfl⟩ | ⟨hcn, a7, c7, us, rfl, hus, hut⟩
    · have HNL : ¬ tl ≤ mid := fun h => hnc (HC2.out.2 h)
      clear hnc
      have b5 : decide (tl ≤ mid) = false := decide_eq_false HNL
      go_wp2_with fail
      have p0 := HP0.out
      have p1 := HP1.out
      have d1 : IntKind.i64.wrap (th - tl) = th - tl := IntWalk.i64_in _ (by omega)
      have d2 : x2.tmod 9 = a := by rw [Int.tmod_eq_emod_of_nonneg hx2.1]; exact HA.out
      have d3 : IntKind.i64.wrap ((th - tl) * a) = (th - tl) * a := IntWalk.i64_in _ (by omega)
      have d4 : ((th - tl) * a).tdiv 8 = (th - tl) * a / 8 := Int.tdiv_eq_ediv_of_nonneg p0
      have d5 : IntKind.i64.wrap ((th - tl) * a / 8) = (th - tl) * a / 8 := IntWalk.i64_in _ (by omega)
      have d6 : IntKind.i64.wrap (tl + (th - tl) * a / 8) = inn := by rw [IntWalk.i64_in _ (by omega)]; exact HINN.out
      go_quiet (fail)
      clear d1 d2 d3 d4 d5 d6 p0 p1
      have hb := below_drewN (Below.refl w7.heap.size w7) nq
      have HB8 := Lib.hid (HB7.out.trans (hb.mono HB7.out.size))
      have HX8 := Lib.hid (HX7.out.later hb)
      have HR8 := Lib.hid (HR7.out.later hb)
      have HSL8 := Lib.hid (HSL7.out.later hb)
      generalize w7.drewN nq = w8 at *
      clear nq
      clear hb y0 y1 yf yz r0 r1 rf rz c0 c1 HB7 HX7 HR7 HSL7
      obtain ⟨y0, y1, yf, yz⟩ := HX8.out.v2
      go_wp2_with fail
      refine (HC42b.out _ HB8.out).mono ?_
      rintro e w9 ⟨v9, rfl, hbk, hb⟩
      have HB9 := Lib.hid (HB8.out.trans (hb.mono HB8.out.size))
      have HR9 := Lib.hid (HR8.out.later hb)
      have HSL9 := Lib.hid (HSL8.out.later hb)
      have HI37 := Lib.hid (isCon37 w9 (.slice a1 b.st.length n1) v9 (b.ch i ⟨inn, inn⟩) hbk)
      obtain ⟨a9, c9, rfl, _, _⟩ := hbk.ts
      clear hb hbk y0 y1 yf yz HX8 HB8 HR8 HSL8
      go_wp2_with fail
      refine HI37.out.mono ?_
      rintro e w10 ⟨ok, rfl, hb, hiff⟩
      have hokt : ok = true := hiff.2 ⟨HCKI.out, HMC2.out⟩
      subst hokt
      rw [HCKI.out]
      have HB10 := Lib.hid (HB9.out.trans (hb.mono HB9.out.size))
      have HR10 := Lib.hid (HR9.out.later hb)
      have HSL10 := Lib.hid (HSL9.out.later hb)
      clear hb hiff HB9 HR9 HSL9 HI37
      obtain ⟨r0, r1, rf, rz⟩ := HR10.out.v2
      obtain ⟨_, _, e3, _, hA⟩ := HSL10.out
      obtain ⟨bt', ot', e4, hbt', htc⟩ := hA (by omega)
      injection e3 with e5 e6 e7
      rw [← e5] at e4
      cases e4
      clear e5 e6 e7 hA
      have hcc := htc i hlen
      rw [HRI.out] at hcc
      obtain ⟨c0, c1⟩ := hcc.c2
      clear htc hcc
      have b1 : decide (tl < lo) = false := decide_eq_false (by omega)
      have b2 : decide (hh < th) = false := decide_eq_false (by omega)
      go_wp2_with fail
      go_quiet (fail)
      clear b1 b2 b5
      have hb := below_drewN (Below.refl w10.heap.size w10) nq
      have HB11 := Lib.hid (HB10.out.trans (hb.mono HB10.out.size))
      have HSL11 := Lib.hid (HSL10.out.later hb)
      generalize w10.drewN nq = w11 at *
      clear nq
      clear hb r0 r1 rf rz c0 c1 HB10 HR10 HSL10
      go_wp2_with fail
      go_ret
      exact ⟨rfl, HB11.out⟩
    · have hyl := HC2.out.1 hcn
      have b5 : decide (tl ≤ mid) = true := decide_eq_true hyl
      have HUS7 := Lib.hid hus
      have HUT := Lib.hid hut
      clear hus hut hcn
      have hnl : (b.ch i ⟨lo, mid⟩).ts.length = b.ts.length := chT_len _ _ _
      rw [hnl] at HUS7 ⊢
      clear hnl
      go_wp2_with fail
      have p0 := HP0.out
      have p1 := HP1.out
      have d1 : IntKind.i64.wrap (th - tl) = th - tl := IntWalk.i64_in _ (by omega)
      have d2 : x2.tmod 9 = a := by rw [Int.tmod_eq_emod_of_nonneg hx2.1]; exact HA.out
      have d3 : IntKind.i64.wrap ((th - tl) * a) = (th - tl) * a := IntWalk.i64_in _ (by omega)
      have d4 : ((th - tl) * a).tdiv 8 = (th - tl) * a / 8 := Int.tdiv_eq_ediv_of_nonneg p0
      have d5 : IntKind.i64.wrap ((th - tl) * a / 8) = (th - tl) * a / 8 := IntWalk.i64_in _ (by omega)
      have d6 : IntKind.i64.wrap (tl + (th - tl) * a / 8) = inn := by rw [IntWalk.i64_in _ (by omega)]; exact HINN.out
      go_quiet (fail)
      clear d1 d2 d3 d4 d5 d6 p0 p1
      have hb := below_drewN (Below.refl w7.heap.size w7) nq
      have HB8 := Lib.hid (HB7.out.trans (hb.mono HB7.out.size))
      have HX8 := Lib.hid (HX7.out.later hb)
      have HR8 := Lib.hid (HR7.out.later hb)
      have HSL8 := Lib.hid (HSL7.out.later hb)
      have HUS8 := Lib.hid (HUS7.out.later hb)
      generalize w7.drewN nq = w8 at *
      clear nq
      clear hb y0 y1 yf yz r0 r1 rf rz c0 c1 HB7 HX7 HR7 HSL7
      obtain ⟨y0, y1, yf, yz⟩ := HX8.out.v2
      go_wp2_with fail
      refine (HC42b.out _ HB8.out).mono ?_
      rintro e w9 ⟨v9, rfl, hbk, hb⟩
      have HB9 := Lib.hid (HB8.out.trans (hb.mono HB8.out.size))
      have HR9 := Lib.hid (HR8.out.later hb)
      have HSL9 := Lib.hid (HSL8.out.later hb)
      have HUS9 := Lib.hid (HUS8.out.later hb)
      have HI37 := Lib.hid (isCon37 w9 (.slice a1 b.st.length n1) v9 (b.ch i ⟨inn, inn⟩) hbk)
      obtain ⟨a9, c9, rfl, _, _⟩ := hbk.ts
      clear hb hbk y0 y1 yf yz HX8 HB8 HR8 HSL8
      go_wp2_with fail
      refine HI37.out.mono ?_
      rintro e w10 ⟨ok, rfl, hb, hiff⟩
      have hokt : ok = true := hiff.2 ⟨HCKI.out, HMC2.out⟩
      subst hokt
      rw [HCKI.out]
      have HB10 := Lib.hid (HB9.out.trans (hb.mono HB9.out.size))
      have HR10 := Lib.hid (HR9.out.later hb)
      have HSL10 := Lib.hid (HSL9.out.later hb)
      have HUS10 := Lib.hid (HUS9.out.later hb)
      clear hb hiff HB9 HR9 HSL9 HI37
      obtain ⟨r0, r1, rf, rz⟩ := HR10.out.v2
      obtain ⟨_, _, e3, _, hA⟩ := HSL10.out
      obtain ⟨bt', ot', e4, hbt', htc⟩ := hA (by omega)
      injection e3 with e5 e6 e7
      rw [← e5] at e4
      cases e4
      clear e5 e6 e7 hA
      have hcc := htc i hlen
      rw [HRI.out] at hcc
      obtain ⟨c0, c1⟩ := hcc.c2
      clear htc hcc
      have b1 : decide (tl < lo) = false := decide_eq_false (by omega)
      have b2 : decide (hh < th) = false := decide_eq_false (by omega)
      go_wp2_with fail
      go_quiet (fail)
      clear b1 b2 b5
      have hb := below_drewN (Below.refl w10.heap.size w10) nq
      have HB11 := Lib.hid (HB10.out.trans (hb.mono HB10.out.size))
      have HSL11 := Lib.hid (HSL10.out.later hb)
      have HUS11 := Lib.hid (HUS10.out.later hb)
      generalize w10.drewN nq = w11 at *
      clear nq
      clear hb r0 r1 rf rz c0 c1 HB10 HR10 HSL10
      go_wp2_with fail
      have HLR := Lib.hid HTS.out.len
      have hul : us.length = b.ts.length := by rw [HUT.out.len]; exact chT_len _ _ _
      have HLU := Lib.hid hul
      clear hul
      have HALU := Lib.hid (HAL.out us HUT.out)
      have hiu : i < us.length := by rw [HLU.out]; exact him
      have HMU := Lib.hid (HMI.out us HUT.out hyl hiu)
      obtain ⟨m, hm⟩ : ∃ m, b.ts.length = m := ⟨_, rfl⟩
      rw [hm] at HSL11 HUS11 HLR HLU him ⊢
      have HM := Lib.hid hm
      clear hm HAL HMI HMC HC2 HUT HTS
      go_loopw [18] (fun x wr => ∃ k : Nat, k ≤ m ∧ x = .int .i64 k ∧ Below w.heap.size w wr ∧ Sl Rg.enc 2 wr wr.heap.size (.slice (some { block := bt, off := ot }) m ct) rs ∧ Sl Rg.enc 2 wr wr.heap.size (.slice a7 m c7) us) (fun x _ => m - (intOf x).toNat)
      case atStart => exact ⟨0, by omega, rfl, HB11.out, HSL11.out, HUS11.out⟩
      case round =>
        clear HB11 HSL11 HUS11
        obtain ⟨k, hk, rfl, hbe, hst, hsu⟩ := hrel
        have HBE := Lib.hid hbe
        have HST := Lib.hid hst
        have HSU := Lib.hid hsu
        obtain ⟨_, _, e3, _, hA⟩ := hst
        obtain ⟨bt2, ot2, e4, _, htc⟩ := hA (by rw [HLR.out]; omega)
        injection e3 with e5 e6 e7
        rw [← e5] at e4
        cases e4
        clear e5 e6 e7 hA
        obtain ⟨_, _, e3, _, hA⟩ := hsu
        obtain ⟨bu, ou, e4, _, huc⟩ := hA (by rw [HLU.out]; omega)
        injection e3 with e5 e6 e7
        rw [← e5] at e4
        subst e4
        clear e5 e6 e7 hA
        by_cases hlt : k < m
        · have hkr : k < rs.length := by rw [HLR.out]; exact hlt
          have hku : k < us.length := by rw [HLU.out]; exact hlt
          obtain ⟨g1, g2, g3⟩ := HALU.out k hkr hku
          obtain ⟨d0, d1⟩ := (htc k hkr).c2
          obtain ⟨u0, u1⟩ := (huc k hku).c2
          obtain ⟨x, hx⟩ : ∃ x, rs[k] = x := ⟨_, rfl⟩
          obtain ⟨y, hy⟩ : ∃ y, us[k] = y := ⟨_, rfl⟩
          rw [hx] at g1 g2 d0 d1
          rw [hy] at g1 g2 g3 u0 u1
          obtain ⟨xl, xh⟩ := x
          obtain ⟨yl, yh⟩ := y
          dsimp only at *
          clear htc huc hx hy hbe
          have b1 : decide (yl < xl) = false := decide_eq_false (by omega)
          have b2 : decide (xh < yh) = false := decide_eq_false (by omega)
          have b3 : decide (yh < yl) = false := decide_eq_false (by omega)
          go_wp2_with fail
          go_quiet (fail)
          clear b1 b2 b3
          go_wp2_with fail
          go_roundw
          case rel => exact ⟨k + 1, by omega, by go_num, below_drewN HBE.out _, HST.out.later (below_drewN (Below.refl _ _) _), HSU.out.later (below_drewN (Below.refl _ _) _)⟩
          case measure => simp [intOf]; omega
        · obtain rfl : m = k := by omega
          obtain ⟨d0, d1⟩ := (htc i hlen).c2
          obtain ⟨u0, u1⟩ := (huc i hiu).c2
          rw [HMU.out] at u1
          rw [HRI.out] at d0 d1
          clear htc huc hbe
          dsimp only at *
          go_wp2_with fail
          clear hlt HALU
          have hmin : (min mid th == if th < mid then th else mid) = true := by
            rw [beq_iff_eq]
            split <;> omega
          have HMN := Lib.hid hmin
          clear hmin
          go_region
          have hbd := below_drewN HBE.out 1
          rw [HMN.out]
          go_wp2_with fail
          all_goals go_ret
          all_goals exact ⟨rfl, hbd⟩
end Go.Proofs.Ytlakcghdehdeiaa

/- The law of Witness, walked. -/
namespace Go.Proofs.Ytlakcghdehdeiaa
open Go Go.Proofs Go.RowKit

theorem wit_end {b : Bk} {i : Nat} {high : Bool} {ms : List Int} {rs : List Rg} (ht : TightS b rs) (hi : i < rs.length) (hm : i < ms.length) (h : WitOk b i high ms) : ms[i] = if high then rs[i].hi else rs[i].lo := by
  obtain ⟨⟨a, a1, a2⟩, ⟨c, c1, c2⟩, hb⟩ := ht.sp i hi
  have h1 := hb ms h.1
  have h2 := h.2 a a1
  have h3 := h.2 c c1
  dsimp only at a2 c2 h1
  rw [getD_at ms i hm] at h1 h2 h3
  cases high
  · simp only [Bool.false_eq_true, if_false] at h2 h3 ⊢; omega
  · simp only [if_true] at h2 h3 ⊢; omega

set_option maxRecDepth 100000 in
set_option maxHeartbeats 1000000 in
theorem witnesses11_aside (v1 v2 : Value) (t : Int) (high : Bool) (w : World) (h : AsideB w (.agg #[v1, v2])) (hs : (∃ a n c, v1 = .slice a n c) ∧ ∃ a n c, v2 = .slice a n c) :
    Calls Try.prog 11 #[.agg #[v1, v2], .int .i64 t, .bool high] w (Ret (.bool true) w) := by
  obtain ⟨⟨a1, n1, c1, rfl⟩, a2, n2, c2, rfl⟩ := hs
  have H := Lib.hid h
  clear h
  go_enter Try.func11, Try.ntmps11
  go_wp2_with fail
  refine (awake16 _).mono ?_
  rintro e w1 ⟨rfl, hb1⟩
  have HX := Lib.hid ((Box.new w #[.slice a1 n1 c1, .slice a2 n2 c2] 38).later hb1)
  have HB1 := Lib.hid (((Below.refl w.heap.size w).alloc (Nat.le_refl _) (.cells #[.slice a1 n1 c1, .slice a2 n2 c2] 38)).trans (hb1.mono (by simp)))
  clear hb1
  obtain ⟨x0, x1, xf, xz⟩ := HX.out.v2
  go_wp2_with fail
  refine (H.out _ HB1.out).mono ?_
  rintro e w2 ⟨rfl, hb2⟩
  have HB2 := Lib.hid (HB1.out.trans (hb2.mono HB1.out.size))
  clear hb2 x0 x1 xf xz
  go_wp2_with fail
  refine (awake16 _).mono ?_
  rintro e w3 ⟨rfl, hb3⟩
  have HB3 := Lib.hid (HB2.out.trans (hb3.mono HB2.out.size))
  clear hb3
  go_wp2_with fail
  go_ret
  exact ⟨rfl, HB3.out⟩

set_option maxRecDepth 100000 in
set_option maxHeartbeats 1000000 in
theorem witnesses11 (v1 v2 : Value) (t : Int) (high : Bool) (w : World) (b : Bk) (hv : BkR w w.heap.size v1 v2 b) (hhv : heavyB b = false) :
    Calls Try.prog 11 #[.agg #[v1, v2], .int .i64 t, .bool high] w (Ret (.bool true) w) := by
  obtain ⟨R, hR⟩ : ∃ R : Bool, R = true ↔ Con b := by
    classical
    exact ⟨decide (Con b), by simp⟩
  have H := Lib.hid (fun (w1 : World) (hb : Below w.heap.size w w1) => heavy23 v1 v2 b w1 (hv.later hb))
  have C24 := Lib.hid (fun (w1 : World) (hb : Below w.heap.size w w1) => ckBook24 v1 v2 b w1 (hv.later hb))
  have C43 := Lib.hid (fun (w1 : World) (hb : Below w.heap.size w w1) => witness43 w1 v1 v2 b t high (hv.later hb))
  have C31 := Lib.hid (fun (w1 : World) (hb : Below w.heap.size w w1) (hok : OkBk b) => isCon31 w1 v1 v2 b hok (hv.later hb) R hR)
  have C38 := Lib.hid (fun (w1 : World) (hb : Below w.heap.size w w1) (hok : OkBk b) (hc : Con b) => tighten38 w1 v1 v2 b hok (hv.later hb) hc)
  have C28 := Lib.hid (fun (w1 : World) (hb : Below w.heap.size w w1) (u : Value) (ms : List Int) (hu : Sl encI 1 w1 w1.heap.size u ms) (hl : ms.length = b.ts.length) (hok : ckBook b = 0) (ha : IsAsg b ms) => holds28 v1 v2 u b ms w1 (hv.later hb) hu hl hok true (by simp [ha]))
  rw [hhv] at H
  have HR := Lib.hid hR
  clear hR hhv
  obtain ⟨⟨a1, n1, hv1, hl1, hA1⟩, ⟨a2, n2, hv2, hl2, hA2⟩, hids⟩ := hv
  subst hv1 hv2
  clear hA1 hA2 hids
  obtain ⟨CK, hCK⟩ : ∃ CK, ckBook b = CK := ⟨_, rfl⟩
  rw [hCK] at C24
  have ECK := Lib.hid hCK
  clear hCK
  go_enter Try.func11, Try.ntmps11
  go_wp2_with fail
  refine (awake16 _).mono ?_
  rintro e w1 ⟨rfl, hb1⟩
  have HX1 := Lib.hid ((Box.new w #[.slice a1 b.st.length n1, .slice a2 b.ts.length n2] 38).later hb1)
  have HB1 := Lib.hid (((Below.refl w.heap.size w).alloc (Nat.le_refl _) (.cells #[.slice a1 b.st.length n1, .slice a2 b.ts.length n2] 38)).trans (hb1.mono (by simp)))
  clear hb1
  obtain ⟨x0, x1, xf, xz⟩ := HX1.out.v2
  go_wp2_with fail
  refine (H.out _ HB1.out).mono ?_
  rintro e w2 ⟨rfl, hb2⟩
  have HX2 := Lib.hid (HX1.out.later hb2)
  have HB2 := Lib.hid (HB1.out.trans (hb2.mono HB1.out.size))
  clear hb2 x0 x1 xf xz HX1 HB1
  obtain ⟨x0, x1, xf, xz⟩ := HX2.out.v2
  go_wp2_with fail
  refine (C43.out _ HB2.out).mono ?_
  rintro e w3 ⟨hb3, hor⟩
  rw [ECK.out] at hor
  have HX3 := Lib.hid (HX2.out.later hb3)
  have HB3 := Lib.hid (HB2.out.trans (hb3.mono HB2.out.size))
  have HOR := Lib.hid hor
  clear hb3 hor x0 x1 xf xz HX2 HB2
  obtain ⟨x0, x1, xf, xz⟩ := HX3.out.v2
  rcases HOR.out with ⟨h0, rfl⟩ | ⟨h0, hto, rfl⟩ | ⟨h0, ht0, ht1, hnc, rfl⟩ | ⟨h0, hc, i, rfl, hil, vl, ms, rfl, hsl, hwit⟩
  · have k0 : (CK == 0) = false := beq_eq_false_iff_ne.2 h0
    have k1 : (CK == CK) = true := beq_self_eq_true _
    by_cases hq0 : t < 0
    · have b1 : decide (t < 0) = true := decide_eq_true hq0
      go_wp2_with fail
      refine (C24.out _ HB3.out).mono ?_
      rintro e w4 ⟨rfl, hb4⟩
      have HX4 := Lib.hid (HX3.out.later hb4)
      have HB4 := Lib.hid (HB3.out.trans (hb4.mono HB3.out.size))
      clear hb4 x0 x1 xf xz HX3 HB3
      obtain ⟨x0, x1, xf, xz⟩ := HX4.out.v2
      go_wp2_with fail
      refine (when27 true 10 _).mono ?_
      rintro e w5 ⟨rfl, rfl⟩
      simp only [whenB]
      go_wp2_with fail
      refine (first18 _ [CK, 10] _ (Sl.lit encI_len [CK, 10] w4 #[.int .i64 CK, .int .i64 10] _ 2 rfl rfl (by simp))).mono ?_
      rintro e w6 ⟨rfl, rfl⟩
      have hfn : firstNZ [CK, 10] = CK := by simp [firstNZ, h0]
      rw [hfn]
      clear hfn
      have hba : Below w4.heap.size w4 (w4.alloc (.cells #[.int .i64 CK, .int .i64 10] 3)) := (Below.refl _ _).alloc (Nat.le_refl _) _
      have HX6 := Lib.hid (HX4.out.later hba)
      have HB6 := Lib.hid (HB4.out.trans (hba.mono HB4.out.size))
      generalize w4.alloc (.cells #[.int .i64 CK, .int .i64 10] 3) = w6 at *
      clear hba HX4 HB4 x0 x1 xf xz
      obtain ⟨x0, x1, xf, xz⟩ := HX6.out.v2
      go_wp2_with fail
      go_ret
      exact ⟨rfl, HB6.out⟩
    · by_cases hq1 : (b.ts.length : Int) ≤ t
      · have b1 : decide (t < 0) = false := decide_eq_false hq0
        have b2 : decide ((b.ts.length : Int) ≤ t) = true := decide_eq_true hq1
        go_wp2_with fail
        refine (C24.out _ HB3.out).mono ?_
        rintro e w4 ⟨rfl, hb4⟩
        have HX4 := Lib.hid (HX3.out.later hb4)
        have HB4 := Lib.hid (HB3.out.trans (hb4.mono HB3.out.size))
        clear hb4 x0 x1 xf xz HX3 HB3
        obtain ⟨x0, x1, xf, xz⟩ := HX4.out.v2
        go_wp2_with fail
        refine (when27 true 10 _).mono ?_
        rintro e w5 ⟨rfl, rfl⟩
        simp only [whenB]
        go_wp2_with fail
        refine (first18 _ [CK, 10] _ (Sl.lit encI_len [CK, 10] w4 #[.int .i64 CK, .int .i64 10] _ 2 rfl rfl (by simp))).mono ?_
        rintro e w6 ⟨rfl, rfl⟩
        have hfn : firstNZ [CK, 10] = CK := by simp [firstNZ, h0]
        rw [hfn]
        clear hfn
        have hba : Below w4.heap.size w4 (w4.alloc (.cells #[.int .i64 CK, .int .i64 10] 3)) := (Below.refl _ _).alloc (Nat.le_refl _) _
        have HX6 := Lib.hid (HX4.out.later hba)
        have HB6 := Lib.hid (HB4.out.trans (hba.mono HB4.out.size))
        generalize w4.alloc (.cells #[.int .i64 CK, .int .i64 10] 3) = w6 at *
        clear hba HX4 HB4 x0 x1 xf xz
        obtain ⟨x0, x1, xf, xz⟩ := HX6.out.v2
        go_wp2_with fail
        go_ret
        exact ⟨rfl, HB6.out⟩
      · have b1 : decide (t < 0) = false := decide_eq_false hq0
        have b2 : decide ((b.ts.length : Int) ≤ t) = false := decide_eq_false hq1
        go_wp2_with fail
        refine (C24.out _ HB3.out).mono ?_
        rintro e w4 ⟨rfl, hb4⟩
        have HX4 := Lib.hid (HX3.out.later hb4)
        have HB4 := Lib.hid (HB3.out.trans (hb4.mono HB3.out.size))
        clear hb4 x0 x1 xf xz HX3 HB3
        obtain ⟨x0, x1, xf, xz⟩ := HX4.out.v2
        go_wp2_with fail
        refine (when27 false 10 _).mono ?_
        rintro e w5 ⟨rfl, rfl⟩
        simp only [whenB]
        go_wp2_with fail
        refine (first18 _ [CK, 0] _ (Sl.lit encI_len [CK, 0] w4 #[.int .i64 CK, .int .i64 0] _ 2 rfl rfl (by simp))).mono ?_
        rintro e w6 ⟨rfl, rfl⟩
        have hfn : firstNZ [CK, 0] = CK := by simp [firstNZ, h0]
        rw [hfn]
        clear hfn
        have hba : Below w4.heap.size w4 (w4.alloc (.cells #[.int .i64 CK, .int .i64 0] 3)) := (Below.refl _ _).alloc (Nat.le_refl _) _
        have HX6 := Lib.hid (HX4.out.later hba)
        have HB6 := Lib.hid (HB4.out.trans (hba.mono HB4.out.size))
        generalize w4.alloc (.cells #[.int .i64 CK, .int .i64 0] 3) = w6 at *
        clear hba HX4 HB4 x0 x1 xf xz
        obtain ⟨x0, x1, xf, xz⟩ := HX6.out.v2
        go_wp2_with fail
        go_ret
        exact ⟨rfl, HB6.out⟩
  · subst h0
    by_cases hq0 : t < 0
    · have b1 : decide (t < 0) = true := decide_eq_true hq0
      go_wp2_with fail
      refine (C24.out _ HB3.out).mono ?_
      rintro e w4 ⟨rfl, hb4⟩
      have HX4 := Lib.hid (HX3.out.later hb4)
      have HB4 := Lib.hid (HB3.out.trans (hb4.mono HB3.out.size))
      clear hb4 x0 x1 xf xz HX3 HB3
      obtain ⟨x0, x1, xf, xz⟩ := HX4.out.v2
      go_wp2_with fail
      refine (when27 true 10 _).mono ?_
      rintro e w5 ⟨rfl, rfl⟩
      simp only [whenB]
      go_wp2_with fail
      refine (first18 _ [0, 10] _ (Sl.lit encI_len [0, 10] w4 #[.int .i64 0, .int .i64 10] _ 2 rfl rfl (by simp))).mono ?_
      rintro e w6 ⟨rfl, rfl⟩
      have hfn : firstNZ [0, 10] = 10 := by simp [firstNZ]
      rw [hfn]
      clear hfn
      have hba : Below w4.heap.size w4 (w4.alloc (.cells #[.int .i64 0, .int .i64 10] 3)) := (Below.refl _ _).alloc (Nat.le_refl _) _
      have HX6 := Lib.hid (HX4.out.later hba)
      have HB6 := Lib.hid (HB4.out.trans (hba.mono HB4.out.size))
      generalize w4.alloc (.cells #[.int .i64 0, .int .i64 10] 3) = w6 at *
      clear hba HX4 HB4 x0 x1 xf xz
      obtain ⟨x0, x1, xf, xz⟩ := HX6.out.v2
      go_wp2_with fail
      go_ret
      exact ⟨rfl, HB6.out⟩
    · by_cases hq1 : (b.ts.length : Int) ≤ t
      · have b1 : decide (t < 0) = false := decide_eq_false hq0
        have b2 : decide ((b.ts.length : Int) ≤ t) = true := decide_eq_true hq1
        go_wp2_with fail
        refine (C24.out _ HB3.out).mono ?_
        rintro e w4 ⟨rfl, hb4⟩
        have HX4 := Lib.hid (HX3.out.later hb4)
        have HB4 := Lib.hid (HB3.out.trans (hb4.mono HB3.out.size))
        clear hb4 x0 x1 xf xz HX3 HB3
        obtain ⟨x0, x1, xf, xz⟩ := HX4.out.v2
        go_wp2_with fail
        refine (when27 true 10 _).mono ?_
        rintro e w5 ⟨rfl, rfl⟩
        simp only [whenB]
        go_wp2_with fail
        refine (first18 _ [0, 10] _ (Sl.lit encI_len [0, 10] w4 #[.int .i64 0, .int .i64 10] _ 2 rfl rfl (by simp))).mono ?_
        rintro e w6 ⟨rfl, rfl⟩
        have hfn : firstNZ [0, 10] = 10 := by simp [firstNZ]
        rw [hfn]
        clear hfn
        have hba : Below w4.heap.size w4 (w4.alloc (.cells #[.int .i64 0, .int .i64 10] 3)) := (Below.refl _ _).alloc (Nat.le_refl _) _
        have HX6 := Lib.hid (HX4.out.later hba)
        have HB6 := Lib.hid (HB4.out.trans (hba.mono HB4.out.size))
        generalize w4.alloc (.cells #[.int .i64 0, .int .i64 10] 3) = w6 at *
        clear hba HX4 HB4 x0 x1 xf xz
        obtain ⟨x0, x1, xf, xz⟩ := HX6.out.v2
        go_wp2_with fail
        go_ret
        exact ⟨rfl, HB6.out⟩
      · exact absurd hto (by omega)
  · subst h0
    have hrf : R = false := by
      cases R with
      | false => rfl
      | true => exact absurd (HR.out.1 rfl) hnc
    subst hrf
    have b1 : decide (t < 0) = false := decide_eq_false (by omega)
    have b2 : decide ((b.ts.length : Int) ≤ t) = false := decide_eq_false (by omega)
    go_wp2_with fail
    refine (C24.out _ HB3.out).mono ?_
    rintro e w4 ⟨rfl, hb4⟩
    have HX4 := Lib.hid (HX3.out.later hb4)
    have HB4 := Lib.hid (HB3.out.trans (hb4.mono HB3.out.size))
    clear hb4 x0 x1 xf xz HX3 HB3
    obtain ⟨x0, x1, xf, xz⟩ := HX4.out.v2
    go_wp2_with fail
    refine (when27 false 10 _).mono ?_
    rintro e w5 ⟨rfl, rfl⟩
    simp only [whenB]
    go_wp2_with fail
    refine (first18 _ [0, 0] _ (Sl.lit encI_len [0, 0] w4 #[.int .i64 0, .int .i64 0] _ 2 rfl rfl (by simp))).mono ?_
    rintro e w6 ⟨rfl, rfl⟩
    have hfn : firstNZ [0, 0] = 0 := by simp [firstNZ]
    rw [hfn]
    clear hfn
    have hba : Below w4.heap.size w4 (w4.alloc (.cells #[.int .i64 0, .int .i64 0] 3)) := (Below.refl _ _).alloc (Nat.le_refl _) _
    have HX6 := Lib.hid (HX4.out.later hba)
    have HB6 := Lib.hid (HB4.out.trans (hba.mono HB4.out.size))
    generalize w4.alloc (.cells #[.int .i64 0, .int .i64 0] 3) = w6 at *
    clear hba HX4 HB4 x0 x1 xf xz
    obtain ⟨x0, x1, xf, xz⟩ := HX6.out.v2
    go_wp2_with fail
    refine (C31.out _ HB6.out (okBk_of ECK.out)).mono ?_
    rintro e w7 ⟨rfl, hb7⟩
    have HX7 := Lib.hid (HX6.out.later hb7)
    have HB7 := Lib.hid (HB6.out.trans (hb7.mono HB6.out.size))
    clear hb7
    go_wp2_with fail
    go_ret
    exact ⟨rfl, HB7.out⟩
  · subst h0
    have hrt : R = true := HR.out.2 hc
    subst hrt
    have HSL3 := Lib.hid hsl
    have HWI := Lib.hid hwit
    have hml : ms.length = b.ts.length := hwit.1.len
    have him : i < ms.length := by omega
    have b1 : decide ((i : Int) < 0) = false := decide_eq_false (by omega)
    have b2 : decide ((b.ts.length : Int) ≤ (i : Int)) = false := decide_eq_false (by omega)
    have b3 : decide (b.ts.length ≤ i) = false := decide_eq_false (by omega)
    have HML := Lib.hid hml
    clear hsl hwit hml
    go_wp2_with fail
    refine (C24.out _ HB3.out).mono ?_
    rintro e w4 ⟨rfl, hb4⟩
    have HX4 := Lib.hid (HX3.out.later hb4)
    have HB4 := Lib.hid (HB3.out.trans (hb4.mono HB3.out.size))
    have HSL4 := Lib.hid (HSL3.out.later hb4)
    clear hb4 x0 x1 xf xz HX3 HB3
    obtain ⟨x0, x1, xf, xz⟩ := HX4.out.v2
    go_wp2_with fail
    refine (when27 false 10 _).mono ?_
    rintro e w5 ⟨rfl, rfl⟩
    simp only [whenB]
    go_wp2_with fail
    refine (first18 _ [0, 0] _ (Sl.lit encI_len [0, 0] w4 #[.int .i64 0, .int .i64 0] _ 2 rfl rfl (by simp))).mono ?_
    rintro e w6 ⟨rfl, rfl⟩
    have hfn : firstNZ [0, 0] = 0 := by simp [firstNZ]
    rw [hfn]
    clear hfn
    have hba : Below w4.heap.size w4 (w4.alloc (.cells #[.int .i64 0, .int .i64 0] 3)) := (Below.refl _ _).alloc (Nat.le_refl _) _
    have HX6 := Lib.hid (HX4.out.later hba)
    have HB6 := Lib.hid (HB4.out.trans (hba.mono HB4.out.size))
    generalize w4.alloc (.cells #[.int .i64 0, .int .i64 0] 3) = w6 at *
    have HSL6 := Lib.hid (HSL4.out.later hba)
    clear hba HSL4 HX4 HB4 x0 x1 xf xz
    obtain ⟨x0, x1, xf, xz⟩ := HX6.out.v2
    go_wp2_with fail
    refine (C31.out _ HB6.out (okBk_of ECK.out)).mono ?_
    rintro e w7 ⟨rfl, hb7⟩
    have HX7 := Lib.hid (HX6.out.later hb7)
    have HB7 := Lib.hid (HB6.out.trans (hb7.mono HB6.out.size))
    have HSL7 := Lib.hid (HSL6.out.later hb7)
    clear hb7 HX6 HB6 HSL6 x0 x1 xf xz
    obtain ⟨x0, x1, xf, xz⟩ := HX7.out.v2
    go_wp2_with fail
    refine (C38.out _ HB7.out (okBk_of ECK.out) hc).mono ?_
    rintro e w8 ⟨vt, rs, rfl, hrs, hrl, htt, hb8⟩
    have HX8 := Lib.hid (HX7.out.later hb8)
    have HB8 := Lib.hid (HB7.out.trans (hb8.mono HB7.out.size))
    have HSL8 := Lib.hid (HSL7.out.later hb8)
    have hir : i < rs.length := by omega
    have hend := wit_end (tightS_of (okBk_of ECK.out) hrl htt) hir him HWI.out
    have HEND := Lib.hid hend
    obtain ⟨at', ct, hvt, _, hA⟩ := hrs
    obtain ⟨bt, ot, hat, hbt, htc⟩ := hA (by omega)
    subst hat hvt
    rw [hrl]
    obtain ⟨r0, r1⟩ := (htc i hir).c2
    obtain ⟨ri, hri⟩ : ∃ r, rs[i] = r := ⟨_, rfl⟩
    rw [hri] at r0 r1 HEND
    obtain ⟨rl, rh⟩ := ri
    dsimp only at r0 r1
    clear hb8 HX7 HB7 HSL7 x0 x1 xf xz htc hri hend htt
    obtain ⟨x0, x1, xf, xz⟩ := HX8.out.v2
    obtain ⟨al, cl, hvl, _, hA⟩ := HSL8.out
    obtain ⟨bl, ol, hal, hbl, hlc⟩ := hA (by omega)
    subst hal hvl
    have l0 := (hlc i him).c1
    rw [Nat.mul_one] at l0
    rw [HML.out]
    have HL0 := Lib.hid l0
    clear hlc hA
    go_wp2_with fail
    have hba : Below w8.heap.size w8 (w8.alloc (.cells #[.int .i64 rl, .int .i64 rh] 24)) := (Below.refl _ _).alloc (Nat.le_refl _) _
    have HQ9 := Lib.hid (Box.new w8 #[.int .i64 rl, .int .i64 rh] 24)
    have HB9 := Lib.hid (HB8.out.trans (hba.mono HB8.out.size))
    have HSL9 := Lib.hid (HSL8.out.later hba)
    generalize w8.alloc (.cells #[.int .i64 rl, .int .i64 rh] 24) = w9 at *
    generalize w8.heap.size = P at *
    clear hba HX8 HB8 HSL8 x0 x1 xf xz r0 r1 l0 HL0
    rw [HML.out] at HSL9
    refine (C28.out w9 HB9.out _ ms HSL9.out HML.out ECK.out HWI.out.1).mono ?_
    rintro e w10 ⟨rfl, hb10⟩
    have HB10 := Lib.hid (HB9.out.trans (hb10.mono HB9.out.size))
    have hq10 := HQ9.out.later hb10
    obtain ⟨q0, q1, qf, qz⟩ := hq10.v2
    obtain ⟨_, _, e1, _, hA⟩ := HSL9.out.later hb10
    obtain ⟨bl', ol', e2, hbl', hlc⟩ := hA (by omega)
    injection e1 with e1 e3 e4
    rw [← e1] at e2
    cases e2
    clear e1 e3 e4 hA
    have l0 := (hlc i him).c1
    rw [Nat.mul_one, HEND.out] at l0
    clear hlc hb10 hq10
    have him2 : i < b.ts.length := hil
    cases high
    · simp only [Bool.false_eq_true, if_false] at l0
      have k1 : (rl == rl) = true := beq_self_eq_true _
      go_wp2_with fail
      go_quiet (fail)
      go_wp2_with fail
      go_ret
      exact ⟨rfl, below_drewN HB10.out _⟩
    · simp only [if_true] at l0
      have k1 : (rh == rh) = true := beq_self_eq_true _
      go_wp2_with fail
      go_quiet (fail)
      go_wp2_with fail
      go_ret
      exact ⟨rfl, below_drewN HB10.out _⟩
end Go.Proofs.Ytlakcghdehdeiaa

/- The law of Either, plainly and walked. -/
namespace Go.Proofs.Ytlakcghdehdeiaa
open Go Go.Proofs Go.RowKit

theorem cut_numsE (rc : List Bool) (n : Nat) : ckNums (outI (cutN rc n)) n = 0 := by
  refine ckNums_0 ?_ ?_
  · rw [List.any_eq_false]
    intro x hx
    obtain ⟨p, hp, rfl⟩ := List.mem_map.1 hx
    have := (cutN_mem.1 hp).1
    simp [outB]; omega
  · have h := cutN_nodup rc n
    unfold outI
    rw [List.nodup_iff_pairwise_ne, List.pairwise_map]
    exact (List.nodup_iff_pairwise_ne.1 h).imp fun hab e => hab (by omega)
def rsW (b : Bk) (ks : List Bool) : List Rg := b.ts.mapIdx fun i t => if ks.getD i true then t.m else ⟨0, 999999999⟩
theorem rsW_len (b : Bk) (ks : List Bool) : (rsW b ks).length = b.ts.length := by simp [rsW]
theorem rsW_get (b : Bk) (ks : List Bool) (i : Nat) (h : i < b.ts.length) : (rsW b ks)[i]'(by rw [rsW_len]; exact h) = if ks.getD i true then b.ts[i].m else ⟨0, 999999999⟩ := by simp [rsW]
theorem wout_setM (b : Bk) (ks : List Bool) : b.wout ks = b.setM (rsW b ks) := by
  unfold Bk.wout Bk.setM
  have : wo b.ts ks b.ts.length = List.zipWith setT b.ts (rsW b ks) := by
    apply List.ext_getElem (by simp [wo_len, rsW_len])
    intro i h1 h2
    rw [wo_len] at h1
    rw [wo_get _ _ _ _ h1, if_pos h1, List.getElem_zipWith, rsW_get _ _ _ h1]
    unfold loosen setT
    split <;> rfl
  rw [this]
theorem conL_mono {b : Bk} (hok : OkBk b) {l l' : List Nat} (h : ∀ i ∈ l, i ∈ l') : ConL b l' → ConL b l := by
  unfold ConL
  rw [con_iff (hok.wout _), con_iff (hok.wout _)]
  rintro ⟨ms, hm⟩
  refine ⟨ms, ?_⟩
  rw [wout_setM, asg_setM (rsW_len _ _)] at hm ⊢
  refine ⟨hm.1, fun i h1 h2 => ?_, hm.2.2⟩
  have hi : i < b.ts.length := by rwa [rsW_len] at h1
  have h3 := hm.2.1 i (by rw [rsW_len]; exact hi) h2
  rw [rsW_get _ _ _ hi] at h3 ⊢
  have g : ∀ l : List Nat, (ksOf b.ts.length l).getD i true = decide (i ∈ l) := fun l => by rw [List.getD_eq_getElem?_getD, List.getElem?_eq_getElem (by rw [ksOf_len]; exact hi), ksOf_get _ _ _ hi]; rfl
  rw [g] at h3 ⊢
  by_cases hl : i ∈ l
  · rw [if_pos (by simpa using hl)]
    rwa [if_pos (by simpa using h i hl)] at h3
  · rw [if_neg (by simpa using hl)]
    by_cases hl' : i ∈ l'
    · rw [if_pos (by simpa using hl')] at h3
      have := hok.tk b.ts[i] (List.getElem_mem hi)
      unfold Rg.has at h3 ⊢
      dsimp only
      omega
    · rwa [if_neg (by simpa using hl')] at h3
theorem greedy_spec (C : List Nat → Prop) (mono : ∀ l l' : List Nat, (∀ i ∈ l, i ∈ l') → C l' → C l) : ∀ (r done : List Nat), ¬ C (done ++ r) →
    ¬ C (greedy C done r) ∧ (∃ r', greedy C done r = done ++ r' ∧ r'.Sublist r) ∧ ∀ j, done.length ≤ j → j < (greedy C done r).length → C ((greedy C done r).eraseIdx j)
  | [], done, h => by
    rw [greedy]
    rw [List.append_nil] at h
    exact ⟨h, ⟨[], by simp⟩, fun j h1 h2 => by omega⟩
  | x :: r, done, h => by
    rw [greedy]
    by_cases hc : C (done ++ r)
    · rw [if_pos hc]
      obtain ⟨h1, ⟨r', h2, h3⟩, h4⟩ := greedy_spec C mono r (done ++ [x]) (by simpa using h)
      refine ⟨h1, ⟨x :: r', by rw [h2]; simp, h3.cons_cons x⟩, fun j k1 k2 => ?_⟩
      by_cases hj : j = done.length
      · subst hj
        rw [h2, List.append_assoc, List.eraseIdx_append_of_length_le (Nat.le_refl _), Nat.sub_self]
        refine mono _ _ ?_ hc
        intro i hi
        simp only [List.singleton_append, List.eraseIdx_cons_zero, List.mem_append] at hi ⊢
        exact hi.imp_right fun q => h3.subset q
      · exact h4 j (by simp; omega) k2
    · rw [if_neg hc]
      obtain ⟨h1, ⟨r', h2, h3⟩, h4⟩ := greedy_spec C mono r done hc
      exact ⟨h1, ⟨r', h2, h3.cons x⟩, h4⟩
theorem minN_spec {b : Bk} (hok : OkBk b) (h : ¬ Con b) : IsMinL b (minN b) ∧ (minN b).Sublist (List.range b.ts.length) := by
  obtain ⟨h1, ⟨r', h2, h3⟩, h4⟩ := greedy_spec (ConL b) (fun l l' => conL_mono hok) (List.range b.ts.length) [] (by rw [List.nil_append]; rw [conL_all b _ (by simp)]; exact h)
  refine ⟨⟨h1, fun j hj => h4 j (by simp) hj⟩, ?_⟩
  unfold minN
  rw [h2]; exact h3
theorem min_nums {b : Bk} (hok : OkBk b) (h : ¬ Con b) : ckNums (minOf b) b.ts.length = 0 := by
  have hs := (minN_spec hok h).2
  refine ckNums_0 ?_ ?_
  · rw [List.any_eq_false]
    intro x hx
    obtain ⟨p, hp, rfl⟩ := List.mem_map.1 hx
    have := List.mem_range.1 (hs.subset hp)
    simp [outB]; omega
  · have h := hs.nodup List.nodup_range
    unfold minOf
    rw [List.nodup_iff_pairwise_ne, List.pairwise_map]
    exact (List.nodup_iff_pairwise_ne.1 h).imp fun hab e => hab (by omega)
theorem cm_min {b : Bk} (hok : OkBk b) (hck : ckBook b = 0) (h : ¬ Con b) : cmR b (minOf b) true = 0 ∧ IsMinI b (minOf b) := by
  refine ⟨?_, isMinI_out.2 (minN_spec hok h).1⟩
  unfold cmR cmE
  rw [hck, min_nums hok h]
  rfl
theorem cc_cut {b : Bk} {rc : List Bool} (hck : ckBook b = 0) (h : ShowsP b (outI (cutN rc b.st.length))) : ccE b (outI (cutN rc b.st.length)) = 0 := by
  unfold ccE chE
  rw [hck, cut_numsE, if_neg (by simp [firstNZ]), if_pos h]

set_option maxRecDepth 100000 in
set_option maxHeartbeats 1000000 in
theorem either15_dark (v1 v2 : Value) (w : World) (h : Dark w (.agg #[v1, v2])) (hs : (∃ a n c, v1 = .slice a n c) ∧ ∃ a n c, v2 = .slice a n c) :
    Calls Try.prog 15 #[.agg #[v1, v2]] w (Ret (.bool true) w) := by
  obtain ⟨⟨a1, n1, c1, rfl⟩, a2, n2, c2, rfl⟩ := hs
  have H := Lib.hid h
  clear h
  go_enter Try.func15, Try.ntmps15
  go_wp2_with fail
  refine (awake16 _).mono ?_
  rintro e w1 ⟨rfl, hb1⟩
  have HX := Lib.hid ((Box.new w #[.slice a1 n1 c1, .slice a2 n2 c2] 38).later hb1)
  have HB1 := Lib.hid (((Below.refl w.heap.size w).alloc (Nat.le_refl _) (.cells #[.slice a1 n1 c1, .slice a2 n2 c2] 38)).trans (hb1.mono (by simp)))
  clear hb1
  obtain ⟨x0, x1, xf, xz⟩ := HX.out.v2
  go_wp2_with fail
  refine (H.out _ HB1.out).mono ?_
  rintro e w2 ⟨rfl, hb2⟩
  have HB2 := Lib.hid (HB1.out.trans (hb2.mono HB1.out.size))
  clear hb2 x0 x1 xf xz
  go_wp2_with fail
  refine (awake16 _).mono ?_
  rintro e w3 ⟨rfl, hb3⟩
  have HB3 := Lib.hid (HB2.out.trans (hb3.mono HB2.out.size))
  clear hb3
  go_wp2_with fail
  go_ret
  exact ⟨rfl, HB3.out⟩

set_option maxRecDepth 100000 in
set_option maxHeartbeats 1000000 in
theorem either15 (v1 v2 : Value) (w : World) (b : Bk) (hv : BkR w w.heap.size v1 v2 b) (hlt : lightB b = true) :
    Calls Try.prog 15 #[.agg #[v1, v2]] w (Ret (.bool true) w) := by
  have hl3 : b.st.length ≤ 6 ∧ b.ts.length ≤ 8 ∧ ckBook b = 0 := by simpa [lightB] using hlt
  obtain ⟨h6, h8, hck⟩ := hl3
  have hok := okBk_of hck
  have H := Lib.hid (fun (w1 : World) (hb : Below w.heap.size w w1) => light34 v1 v2 b w1 (hv.later hb))
  have C35 := Lib.hid (fun (w1 : World) (hb : Below w.heap.size w w1) => tight_p w1 v1 v2 b (hv.later hb) hck)
  have C44 := Lib.hid (fun (w1 : World) (hb : Below w.heap.size w w1) => conflict44 w1 v1 v2 b (hv.later hb))
  have C47 := Lib.hid (fun (w1 : World) (hb : Below w.heap.size w w1) => minimal47 w1 v1 v2 b (hv.later hb))
  have C45 := Lib.hid (fun (w1 : World) (hb : Below w.heap.size w w1) (q : Value) (ls : List Int) (h : Sl encI 1 w1 w1.heap.size q ls) (h0 : ccE b ls = 0) => (h0 ▸ checkConflict45 w1 v1 v2 q b ls (hv.later hb) h : Calls Try.prog 45 #[.agg #[v1, v2], q] w1 (Ret (.int .i64 0) w1)))
  have C48 := Lib.hid (fun (w1 : World) (hb : Below w.heap.size w w1) (q : Value) (hnc : ¬ Con b) (h : Sl encI 1 w1 w1.heap.size q (minOf b)) => ((cm_min hok hck hnc).1 ▸ ckMin48r w1 v1 v2 q b (minOf b) (hv.later hb) h true (by simp [(cm_min hok hck hnc).2]) : Calls Try.prog 48 #[.agg #[v1, v2], q] w1 (Ret (.int .i64 0) w1)))
  have C43 := Lib.hid (fun (w1 : World) (hb : Below w.heap.size w w1) (t : Int) (high : Bool) => witness43 w1 v1 v2 b t high (hv.later hb))
  have C26 := Lib.hid (fun (w1 : World) (hb : Below w.heap.size w w1) (q : Value) (ms : List Int) (h : Sl encI 1 w1 w1.heap.size q ms) (ha : IsAsg b ms) => ((by unfold holdsE; rw [hck, if_neg (by simp), if_neg (by simp [ha.len])] : holdsE b ms = 0) ▸ holds26 v1 v2 q b ms w1 (hv.later hb) h true (by simp [hck, ha]) : Calls Try.prog 26 #[.agg #[v1, v2], q] w1 (Ret (.tuple #[.bool true, .int .i64 0]) w1)))
  rw [hlt] at H
  have ECK := Lib.hid hck
  have EOK := Lib.hid hok
  obtain ⟨⟨a1, n1, hv1, hl1, hA1⟩, ⟨a2, n2, hv2, hl2, hA2⟩, hids⟩ := hv
  subst hv1 hv2
  clear hA1 hA2 hids hlt hck hok
  obtain ⟨m, hm⟩ : ∃ m, b.ts.length = m := ⟨_, rfl⟩
  obtain ⟨m1, hm1⟩ : ∃ m, b.st.length = m := ⟨_, rfl⟩
  rw [hm, hm1] at H C35 C44 C47 C45 C48 C43 C26 ⊢
  rw [hm] at hl2 h8
  rw [hm1] at hl1 h6
  have HM := Lib.hid hm
  clear hm hm1
  go_enter Try.func15, Try.ntmps15
  go_wp2_with fail
  refine (awake16 _).mono ?_
  rintro e w1 ⟨rfl, hb1⟩
  have HX1 := Lib.hid ((Box.new w #[.slice a1 m1 n1, .slice a2 m n2] 38).later hb1)
  have HB1 := Lib.hid (((Below.refl w.heap.size w).alloc (Nat.le_refl _) (.cells #[.slice a1 m1 n1, .slice a2 m n2] 38)).trans (hb1.mono (by simp)))
  clear hb1
  obtain ⟨x0, x1, xf, xz⟩ := HX1.out.v2
  go_wp2_with fail
  refine (H.out _ HB1.out).mono ?_
  rintro e w2 ⟨rfl, hb2⟩
  have HX2 := Lib.hid (HX1.out.later hb2)
  have HB2 := Lib.hid (HB1.out.trans (hb2.mono HB1.out.size))
  clear hb2 x0 x1 xf xz HX1 HB1
  obtain ⟨x0, x1, xf, xz⟩ := HX2.out.v2
  go_wp2_with fail
  refine (C35.out _ HB2.out).mono ?_
  rintro e w3 ⟨hb3, hor⟩
  have HX3 := Lib.hid (HX2.out.later hb3)
  have HB3 := Lib.hid (HB2.out.trans (hb3.mono HB2.out.size))
  clear hb3 x0 x1 xf xz HX2 HB2
  obtain ⟨x0, x1, xf, xz⟩ := HX3.out.v2
  rcases hor with ⟨hnc, rfl⟩ | ⟨hc, at_, ct_, rs, rfl, hst, hts⟩
  · have HNC := Lib.hid hnc
    clear hnc
    go_wp2_with fail
    refine (C44.out _ HB3.out).mono ?_
    rintro e w4 ⟨hb4, hor⟩
    rcases hor with ⟨hx, _⟩ | ⟨_, hc, _⟩ | ⟨_, _, vl, rc, rfl, hsl, hsp⟩
    · exact absurd ECK.out hx
    · exact absurd hc HNC.out
    have HL4 := Lib.hid hsl
    have HSP := Lib.hid (cc_cut ECK.out hsp)
    clear hsl hsp
    have HX4 := Lib.hid (HX3.out.later hb4)
    have HB4 := Lib.hid (HB3.out.trans (hb4.mono HB3.out.size))
    clear hb4 x0 x1 xf xz HX3 HB3
    obtain ⟨x0, x1, xf, xz⟩ := HX4.out.v2
    go_wp2_with fail
    refine (C47.out _ HB4.out).mono ?_
    rintro e w5 ⟨hb5, hor⟩
    rcases hor with ⟨hx, _⟩ | ⟨_, hc, _⟩ | ⟨_, _, vm, rfl, hsl⟩
    · exact absurd ECK.out hx
    · exact absurd hc HNC.out
    have HK5 := Lib.hid hsl
    clear hsl
    have HX5 := Lib.hid (HX4.out.later hb5)
    have HB5 := Lib.hid (HB4.out.trans (hb5.mono HB4.out.size))
    have HL5 := Lib.hid (HL4.out.later hb5)
    clear hb5 x0 x1 xf xz HX4 HB4 HL4
    obtain ⟨x0, x1, xf, xz⟩ := HX5.out.v2
    go_wp2_with fail
    refine (C45.out _ HB5.out _ _ HL5.out HSP.out).mono ?_
    rintro e w6 ⟨rfl, hb6⟩
    have HX6 := Lib.hid (HX5.out.later hb6)
    have HB6 := Lib.hid (HB5.out.trans (hb6.mono HB5.out.size))
    have HL6 := Lib.hid (HL5.out.later hb6)
    have HK6 := Lib.hid (HK5.out.later hb6)
    clear hb6 x0 x1 xf xz HX5 HB5 HL5 HK5
    obtain ⟨x0, x1, xf, xz⟩ := HX6.out.v2
    go_wp2_with fail
    refine (C48.out _ HB6.out _ HNC.out HK6.out).mono ?_
    rintro e w7 ⟨rfl, hb7⟩
    have HX7 := Lib.hid (HX6.out.later hb7)
    have HB7 := Lib.hid (HB6.out.trans (hb7.mono HB6.out.size))
    have HL7 := Lib.hid (HL6.out.later hb7)
    have HK7 := Lib.hid (HK6.out.later hb7)
    clear hb7 x0 x1 xf xz HX6 HB6 HL6 HK6
    obtain ⟨x0, x1, xf, xz⟩ := HX7.out.v2
    go_wp2_with fail
    go_ret
    exact ⟨rfl, HB7.out⟩
  · rw [HM.out] at hst ⊢
    have HC := Lib.hid hc
    have HT3 := Lib.hid hst
    have HTS := Lib.hid hts
    clear hst hts
    go_wp2_with fail
    refine (C44.out _ HB3.out).mono ?_
    rintro e w4 ⟨hb4, hor⟩
    rcases hor with ⟨hx, _⟩ | ⟨_, _, rfl⟩ | ⟨_, hnc, _⟩
    · exact absurd ECK.out hx
    rotate_left
    · exact absurd HC.out hnc
    have HX4 := Lib.hid (HX3.out.later hb4)
    have HB4 := Lib.hid (HB3.out.trans (hb4.mono HB3.out.size))
    have HT4 := Lib.hid (HT3.out.later hb4)
    clear hb4 x0 x1 xf xz HX3 HB3 HT3
    obtain ⟨x0, x1, xf, xz⟩ := HX4.out.v2
    go_wp2_with fail
    refine (C47.out _ HB4.out).mono ?_
    rintro e w5 ⟨hb5, hor⟩
    rcases hor with ⟨hx, _⟩ | ⟨_, _, rfl⟩ | ⟨_, hnc, _⟩
    · exact absurd ECK.out hx
    rotate_left
    · exact absurd HC.out hnc
    have HX5 := Lib.hid (HX4.out.later hb5)
    have HB5 := Lib.hid (HB4.out.trans (hb5.mono HB4.out.size))
    have HT5 := Lib.hid (HT4.out.later hb5)
    clear hb5 x0 x1 xf xz HX4 HB4 HT4
    obtain ⟨x0, x1, xf, xz⟩ := HX5.out.v2
    have HRL := Lib.hid (show rs.length = m by rw [HTS.out.len, HM.out])
    go_wp2_with fail
    go_loopw [9] (fun i wr => ∃ k : Nat, k ≤ m ∧ i = .int .i64 k ∧ Box wr w.heap.size 38 [.slice a1 m1 n1, .slice a2 m n2] ∧ Below w.heap.size w wr ∧ Sl Rg.enc 2 wr wr.heap.size (.slice at_ m ct_) rs) (fun i _ => m - (intOf i).toNat)
    case atStart => exact ⟨0, by omega, rfl, HX5.out, HB5.out, HT5.out⟩
    case round =>
      clear x0 x1 xf xz
      obtain ⟨k, hk, rfl, hx, hbr, ht⟩ := hrel
      have HX30 := Lib.hid hx
      have HB30 := Lib.hid hbr
      have HT30 := Lib.hid ht
      clear hx hbr ht
      obtain ⟨x0, x1, xf, xz⟩ := HX30.out.v2
      by_cases hlt : k < m
      · go_wp2_with fail
        refine (C43.out _ HB30.out k false).mono ?_
        rintro e w31 ⟨hb31, hor⟩
        rcases hor with ⟨hx, _⟩ | ⟨_, hx, _⟩ | ⟨_, _, _, hx, _⟩ | ⟨_, _, i, hi, _, vP, msP, rfl, hsl, hwi⟩
        · exact absurd ECK.out hx
        · exact absurd hx (by rw [HM.out]; omega)
        · exact absurd HC.out hx
        obtain rfl : k = i := by omega
        have HP31 := Lib.hid hsl
        have WP := Lib.hid hwi
        have LP := Lib.hid (show msP.length = m by rw [hwi.1.len, HM.out])
        clear hsl hwi hi
        have HX31 := Lib.hid (HX30.out.later hb31)
        have HB31 := Lib.hid (HB30.out.trans (hb31.mono HB30.out.size))
        have HT31 := Lib.hid (HT30.out.later hb31)
        clear hb31 x0 x1 xf xz HX30 HB30 HT30
        obtain ⟨x0, x1, xf, xz⟩ := HX31.out.v2
        go_wp2_with fail
        refine (C43.out _ HB31.out k true).mono ?_
        rintro e w32 ⟨hb32, hor⟩
        rcases hor with ⟨hx, _⟩ | ⟨_, hx, _⟩ | ⟨_, _, _, hx, _⟩ | ⟨_, _, i, hi, _, vQ, msQ, rfl, hsl, hwi⟩
        · exact absurd ECK.out hx
        · exact absurd hx (by rw [HM.out]; omega)
        · exact absurd HC.out hx
        obtain rfl : k = i := by omega
        have HQ32 := Lib.hid hsl
        have WQ := Lib.hid hwi
        have LQ := Lib.hid (show msQ.length = m by rw [hwi.1.len, HM.out])
        clear hsl hwi hi
        have HX32 := Lib.hid (HX31.out.later hb32)
        have HB32 := Lib.hid (HB31.out.trans (hb32.mono HB31.out.size))
        have HT32 := Lib.hid (HT31.out.later hb32)
        have HP32 := Lib.hid (HP31.out.later hb32)
        clear hb32 x0 x1 xf xz HX31 HB31 HT31 HP31
        obtain ⟨x0, x1, xf, xz⟩ := HX32.out.v2
        have hir : k < rs.length := by rw [HRL.out]; exact hlt
        have EP := Lib.hid (wit_end HTS.out hir (by rw [LP.out]; exact hlt) WP.out)
        have EQ := Lib.hid (wit_end HTS.out hir (by rw [LQ.out]; exact hlt) WQ.out)
        obtain ⟨at', ct, hvt, _, hA⟩ := HT32.out
        injection hvt with e1 e2 e3
        subst e1 e3
        clear e2
        obtain ⟨bt, ot, hat, hbt, htc⟩ := hA (by omega)
        subst hat
        obtain ⟨r0, r1⟩ := (htc k hir).c2
        obtain ⟨ri, hri⟩ : ∃ r, rs[k] = r := ⟨_, rfl⟩
        rw [hri] at r0 r1 EP EQ
        obtain ⟨rl, rh⟩ := ri
        dsimp only at r0 r1
        have hbtz : bt < w32.heap.size := by omega
        clear hri htc hA hbt
        obtain ⟨ap, cp, hvp, _, hA⟩ := HP32.out
        rw [LP.out] at hvp
        subst hvp
        obtain ⟨bp, op, hal, hbp, hlc⟩ := hA (by rw [LP.out]; omega)
        subst hal
        have p0 := (hlc k (by rw [LP.out]; exact hlt)).c1
        rw [Nat.mul_one, EP.out] at p0
        have hbpz : bp < w32.heap.size := by omega
        clear hlc hA hbp
        obtain ⟨aq, cq, hvq, _, hA⟩ := HQ32.out
        rw [LQ.out] at hvq
        subst hvq
        obtain ⟨bq, oq, hal, hbq, hlc⟩ := hA (by rw [LQ.out]; omega)
        subst hal
        have q0 := (hlc k (by rw [LQ.out]; exact hlt)).c1
        rw [Nat.mul_one, EQ.out] at q0
        have hbqz : bq < w32.heap.size := by omega
        clear hlc hA hbq
        simp only [Bool.false_eq_true, if_false] at p0
        simp only [if_true] at q0
        have k1 : (rl == rl) = true := beq_self_eq_true _
        have k2 : (rh == rh) = true := beq_self_eq_true _
        go_wp2_with fail
        go_quiet (fail)
        clear p0 q0 r0 r1 k1 k2
        go_wp2_with fail
        refine (C26.out _ (below_drewN HB32.out _) _ msP (HP32.out.later (below_drewN (Below.refl _ _) _)) WP.out.1).mono ?_
        rintro e w40 ⟨rfl, hb40⟩
        have hb41 : Below w32.heap.size w32 w40 := (below_drewN (Below.refl _ _) _).trans hb40
        clear hb40
        have HX40 := Lib.hid (HX32.out.later hb41)
        have HB40 := Lib.hid (HB32.out.trans (hb41.mono HB32.out.size))
        have HT40 := Lib.hid (HT32.out.later hb41)
        have HP40 := Lib.hid (HP32.out.later hb41)
        have HQ40 := Lib.hid (HQ32.out.later hb41)
        clear hb41 x0 x1 xf xz HX32 HB32 HT32 HP32 HQ32
        obtain ⟨x0, x1, xf, xz⟩ := HX40.out.v2
        go_wp2_with fail
        refine (C26.out _ HB40.out _ msQ HQ40.out WQ.out.1).mono ?_
        rintro e w41 ⟨rfl, hb41⟩
        have HX41 := Lib.hid (HX40.out.later hb41)
        have HB41 := Lib.hid (HB40.out.trans (hb41.mono HB40.out.size))
        have HT41 := Lib.hid (HT40.out.later hb41)
        have HP41 := Lib.hid (HP40.out.later hb41)
        have HQ41 := Lib.hid (HQ40.out.later hb41)
        clear hb41 x0 x1 xf xz HX40 HB40 HT40 HP40 HQ40
        obtain ⟨x0, x1, xf, xz⟩ := HX41.out.v2
        go_wp2_with fail
        go_roundw
        case rel => exact ⟨k + 1, by omega, by go_num, HX41.out, HB41.out, HT41.out⟩
        case measure => simp [intOf]; omega
      · obtain rfl : m = k := by omega
        go_wp2_with fail
        go_ret
        exact ⟨rfl, HB30.out⟩
end Go.Proofs.Ytlakcghdehdeiaa

namespace Go.Proofs.Ytlakcghdehdeiaa
open Go Go.Proofs Go.RowKit Go.ChangeShapes Go.WideShapes Go.ChangeAt Go.Joins Go.Deep

set_option maxRecDepth 100000 in
theorem weighEither_contract (H : Type) (enc : TypeId × Value → H) (W : World) (base : Nat) (args : Array Value) (ds gs : List (DataW H)) (before : List MemPlace)
    (hval : ∀ (j : Nat) t v, Try.f15.params[j]? = some t → args[j]? = some v → Value.okWide Try.prog W .any base t v)
    (hW : DataW.Whole enc Try.prog Try.f15.params.toList Rows.weighEitherSpec.vars false W args.toList ds gs before) :
    Calls Try.prog 15 args W fun e W' => ∃ v, e = .returned v ∧ Rows.weighEitherSpec.post enc Try.prog Try.f15 false true false false W args v W' := by
  have hW' := hW
  obtain ⟨p, q, hA0, hV, rfl, hfz, hnd⟩ := hW
  have hA : DataW.TrodAll enc Try.prog W 0 (fun _ => true) true Try.f15.params.toList args.toList ds p := hA0
  rw [Try.params15] at hA hval
  obtain ⟨v0, d0, rfl, rfl, h0⟩ := trodAll_one hA
  obtain ⟨a0, n0, c0, d0, m0, e0, rfl, hn0, hm0, hl0⟩ := bk_open (hval 0 38 v0 rfl rfl) h0
  have key : Calls Try.prog 15 #[.agg #[.slice a0 n0 c0, .slice d0 m0 e0]] W (Ret (.bool true) W) := by
    by_cases hbig : 6 < n0 ∨ 8 < m0
    · exact either15_dark _ _ W (dark_big a0 d0 n0 c0 m0 e0 W hn0 hm0 hbig) ⟨⟨_, _, _, rfl⟩, _, _, _, rfl⟩
    · obtain ⟨b, hb1, hb2, hb, _⟩ := hl0 (by omega) (by omega)
      by_cases hlt : lightB b = true
      · exact either15 _ _ W b hb hlt
      · exact either15_dark _ _ W (dark_of hb (eq_false_of_ne_true hlt)) ⟨⟨_, _, _, rfl⟩, _, _, _, rfl⟩
  refine key.mono fun e W' ⟨he, hb⟩ => ⟨_, he, ?_⟩
  exact law_post rfl rfl rfl (by rw [Try.params15]; decide) hW' rfl rfl rfl hb

set_option maxRecDepth 100000 in
theorem weighEither_lifted (os : Os) (started : os.Started) (H : Type) (enc : TypeId × Value → H) :
    ReturnsInHanded {} Try.checked os 15 .any (Rows.weighEitherSpec.pre6 enc Try.prog Try.f15 Rows.weighEitherRow.domain false) (Rows.weighEitherSpec.post enc Try.prog Try.f15 false true false false) := by
  refine returnsInHanded_of_change (C := Try.checked) Try.own started (by kernel_rfl) Try.func15
    (ChangeSpec.witness6 (enc := enc) (C := Try.checked) false ⟨#[], #[.agg #[.slice none 0 0, .slice none 0 0]], []⟩ 8 (by kernel_rfl) (by kernel_rfl) (by kernel_rfl) (by kernel_rfl)) ?_
  intro W base args ds gs before hval hW _ _
  exact weighEither_contract H enc W base args ds gs before hval hW

theorem weighEither_holds : Rows.WeighEitherSaid :=
  OpenClaim.holds_of_wide 15 Try.f15 rfl rfl rfl rfl rfl rfl rfl ⟨rfl, rfl, rfl, rfl, rfl⟩ rfl rfl rfl rfl rfl (by kernel_rfl) Try.func15 (by kernel_rfl)
    (of_decide_eq_true (by kernel_rfl)) (by unfold Func.isWrapper; first | (rw [if_pos (by decide +kernel)]; kernel_rfl) | (rw [if_neg (by decide +kernel)]; exact ⟨rfl, rfl⟩))
    (fun os started H enc _ => weighEither_lifted os started H enc)
end Go.Proofs.Ytlakcghdehdeiaa
