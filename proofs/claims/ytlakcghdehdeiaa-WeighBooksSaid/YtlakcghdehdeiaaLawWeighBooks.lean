/- The law WeighBooks returns true for every input, and leaves its arguments as they were. No conditions. -/
import Derived.Test.YtlakcghdehdeiaaLib14
set_option linter.unusedVariables false
set_option linter.unusedSimpArgs false

/- The law of books, walked. -/
namespace Go.Proofs.Ytlakcghdehdeiaa
open Go Go.Proofs Go.RowKit

/-- A book that the laws leave aside. -/
def Aside (w : World) (v : Value) : Prop := ∀ w1, Below w.heap.size w w1 → Calls Try.prog 23 #[v] w1 (Ret (.bool true) w1)

set_option maxRecDepth 100000 in
set_option maxHeartbeats 1000000 in
theorem books4_aside (v1 v2 : Value) (a : Option Addr) (n c : Nat) (w : World) (hn : n ≤ 9223372036854775807) (h : Aside w (.agg #[v1, v2])) (hs : (∃ a n c, v1 = .slice a n c) ∧ ∃ a n c, v2 = .slice a n c) :
    Calls Try.prog 4 #[.agg #[v1, v2], .slice a n c] w (Ret (.bool true) w) := by
  obtain ⟨⟨a1, n1, c1, rfl⟩, a2, n2, c2, rfl⟩ := hs
  have H := Lib.hid h
  clear h
  go_enter Try.func4, Try.ntmps4
  go_wp2_with fail
  refine (awake16 _).mono ?_
  rintro e w1 ⟨rfl, hb1⟩
  have HX := Lib.hid ((Box.new w #[.slice a1 n1 c1, .slice a2 n2 c2] 38).later hb1)
  have HB1 := Lib.hid (((Below.refl w.heap.size w).alloc (Nat.le_refl _) (.cells #[.slice a1 n1 c1, .slice a2 n2 c2] 38)).trans (hb1.mono (by simp)))
  clear hb1
  obtain ⟨x0, x1, xf, xz⟩ := HX.out.v2
  go_wp2_with fail
  refine (H.out _ HB1.out).mono ?_
  rintro e w2 ⟨rfl, hb2⟩
  have HB2 := Lib.hid (HB1.out.trans (hb2.mono HB1.out.size))
  clear hb2 x0 x1 xf xz
  go_wp2_with fail
  refine (awake16 _).mono ?_
  rintro e w3 ⟨rfl, hb3⟩
  have HB3 := Lib.hid (HB2.out.trans (hb3.mono HB2.out.size))
  clear hb3
  go_wp2_with fail
  go_ret
  exact ⟨rfl, HB3.out⟩

set_option maxRecDepth 100000 in
set_option maxHeartbeats 1000000 in
theorem books4_many (v1 v2 : Value) (a : Option Addr) (n c : Nat) (w : World) (b : Bk) (hv : BkR w w.heap.size v1 v2 b) (hn : n ≤ 9223372036854775807) (hbig : 140 < n) :
    Calls Try.prog 4 #[.agg #[v1, v2], .slice a n c] w (Ret (.bool true) w) := by
  have H := Lib.hid (fun (w1 : World) (hb : Below w.heap.size w w1) => heavy23 v1 v2 b w1 (hv.later hb))
  obtain ⟨⟨a1, n1, hv1, hl1, hA1⟩, ⟨a2, n2, hv2, hl2, hA2⟩, hids⟩ := hv
  subst hv1 hv2
  clear hA1 hA2 hids
  obtain ⟨R, hR⟩ : ∃ R, heavyB b = R := ⟨_, rfl⟩
  rw [hR] at H
  clear hR
  go_enter Try.func4, Try.ntmps4
  go_wp2_with fail
  refine (awake16 _).mono ?_
  rintro e w1 ⟨rfl, hb1⟩
  have HX := Lib.hid ((Box.new w #[.slice a1 b.st.length n1, .slice a2 b.ts.length n2] 38).later hb1)
  have HB1 := Lib.hid (((Below.refl w.heap.size w).alloc (Nat.le_refl _) (.cells #[.slice a1 b.st.length n1, .slice a2 b.ts.length n2] 38)).trans (hb1.mono (by simp)))
  clear hb1
  obtain ⟨x0, x1, xf, xz⟩ := HX.out.v2
  go_wp2_with fail
  refine (H.out _ HB1.out).mono ?_
  rintro e w2 ⟨rfl, hb2⟩
  have HB2 := Lib.hid (HB1.out.trans (hb2.mono HB1.out.size))
  clear hb2 x0 x1 xf xz
  cases R
  all_goals
    go_wp2_with fail
    refine (awake16 _).mono ?_
    rintro e w3 ⟨rfl, hb3⟩
    have HB3 := Lib.hid (HB2.out.trans (hb3.mono HB2.out.size))
    clear hb3
    go_wp2_with fail
    go_ret
    exact ⟨rfl, HB3.out⟩

/-- Masses far beyond the ranges are no assignment. -/
theorem far_not {b : Bk} {ms : List Int} (hok : OkBk b) (k : Nat) (hk : k < ms.length) (h : ms[k] < -999999999 ∨ 999999999 < ms[k]) : ¬ IsAsg b ms := fun ha => by
  have hk' : k < b.ts.length := by rw [← ha.len]; exact hk
  have h1 := ha.tk k hk'
  have h2 := hok.tk b.ts[k] (List.getElem_mem hk')
  unfold Rg.has at h1
  omega

set_option maxRecDepth 100000 in
set_option maxHeartbeats 1000000 in
theorem books4 (v1 v2 u : Value) (w : World) (b : Bk) (ms : List Int) (hv : BkR w w.heap.size v1 v2 b) (hu : Sl encI 1 w w.heap.size u ms) (hs : ms.length ≤ 140) :
    Calls Try.prog 4 #[.agg #[v1, v2], u] w (Ret (.bool true) w) := by
  obtain ⟨R, hR⟩ : ∃ R : Bool, R = true ↔ ckBook b = 0 ∧ IsAsg b ms := by
    classical
    exact ⟨decide (ckBook b = 0 ∧ IsAsg b ms), by simp⟩
  have H := Lib.hid (fun (w1 : World) (hb : Below w.heap.size w w1) => heavy23 v1 v2 b w1 (hv.later hb))
  have C24 := Lib.hid (fun (w1 : World) (hb : Below w.heap.size w w1) => ckBook24 v1 v2 b w1 (hv.later hb))
  have C25 := Lib.hid (fun (w1 : World) (hb : Below w.heap.size w w1) => ckBook25 v1 v2 b w1 (hv.later hb))
  have C26 := Lib.hid (fun (w1 : World) (hb : Below w.heap.size w w1) => holds26 v1 v2 u b ms w1 (hv.later hb) (hu.later hb) R hR)
  have C28 := Lib.hid (fun (w1 : World) (hb : Below w.heap.size w w1) (hl : ms.length = b.ts.length) (hok : ckBook b = 0) => holds28 v1 v2 u b ms w1 (hv.later hb) (hu.later hb) hl hok R (by rw [hR]; simp [hok]))
  have HU := Lib.hid hu
  have HR := Lib.hid hR
  clear hR
  obtain ⟨⟨a1, n1, hv1, hl1, hA1⟩, ⟨a2, n2, hv2, hl2, hA2⟩, hids⟩ := hv
  subst hv1 hv2
  clear hA1 hA2 hids
  obtain ⟨a3, c3, rfl, hl3, hA3⟩ := hu
  have HA3 := Lib.hid hA3
  clear hA3
  obtain ⟨HV, hHV⟩ : ∃ HV, heavyB b = HV := ⟨_, rfl⟩
  obtain ⟨CK, hCK⟩ : ∃ CK, ckBook b = CK := ⟨_, rfl⟩
  obtain ⟨HE, hHE⟩ : ∃ HE, holdsE b ms = HE := ⟨_, rfl⟩
  rw [hHV] at H
  rw [hCK] at C24 C25 C28
  rw [hHE] at C26
  have ECK := Lib.hid hCK
  have EHE := Lib.hid hHE
  clear hHV hCK hHE
  go_enter Try.func4, Try.ntmps4
  go_wp2_with fail
  refine (awake16 _).mono ?_
  rintro e w1 ⟨rfl, hb1⟩
  have HX1 := Lib.hid ((Box.new w #[.slice a1 b.st.length n1, .slice a2 b.ts.length n2] 38).later hb1)
  have HB1 := Lib.hid (((Below.refl w.heap.size w).alloc (Nat.le_refl _) (.cells #[.slice a1 b.st.length n1, .slice a2 b.ts.length n2] 38)).trans (hb1.mono (by simp)))
  clear hb1
  obtain ⟨x0, x1, xf, xz⟩ := HX1.out.v2
  go_wp2_with fail
  refine (H.out _ HB1.out).mono ?_
  rintro e w2 ⟨rfl, hb2⟩
  have HB2 := Lib.hid (HB1.out.trans (hb2.mono HB1.out.size))
  have HX2 := Lib.hid (HX1.out.later hb2)
  clear hb2 x0 x1 xf xz HX1 HB1
  obtain ⟨x0, x1, xf, xz⟩ := HX2.out.v2
  cases HV
  rotate_left
  · go_wp2_with fail
    refine (awake16 _).mono ?_
    rintro e w3 ⟨rfl, hb3⟩
    have HB3 := Lib.hid (HB2.out.trans (hb3.mono HB2.out.size))
    clear hb3
    go_wp2_with fail
    go_ret
    exact ⟨rfl, HB3.out⟩
  go_wp2_with fail
  refine (C24.out _ HB2.out).mono ?_
  rintro e w3 ⟨rfl, hb3⟩
  have HB3 := Lib.hid (HB2.out.trans (hb3.mono HB2.out.size))
  have HX3 := Lib.hid (HX2.out.later hb3)
  clear hb3 x0 x1 xf xz HX2 HB2
  obtain ⟨x0, x1, xf, xz⟩ := HX3.out.v2
  go_wp2_with fail
  refine (C25.out _ HB3.out).mono ?_
  rintro e w4 ⟨rfl, hb4⟩
  have HB4 := Lib.hid (HB3.out.trans (hb4.mono HB3.out.size))
  have HX4 := Lib.hid (HX3.out.later hb4)
  clear hb4 x0 x1 xf xz HX3 HB3
  obtain ⟨x0, x1, xf, xz⟩ := HX4.out.v2
  go_wp2_with fail
  refine (C26.out _ HB4.out).mono ?_
  rintro e w5 ⟨rfl, hb5⟩
  have HB5 := Lib.hid (HB4.out.trans (hb5.mono HB4.out.size))
  have HX5 := Lib.hid (HX4.out.later hb5)
  clear hb5 x0 x1 xf xz HX4 HB4
  obtain ⟨x0, x1, xf, xz⟩ := HX5.out.v2
  have HRF := Lib.hid (show HE ≠ 0 → R = false from fun h => Bool.eq_false_iff.2 fun hT => by
    obtain ⟨g1, g2⟩ := HR.out.1 hT
    apply h
    rw [← EHE.out]
    unfold holdsE
    simp [g1, g2.len])
  have HZ : Hid (HE = 0 → CK = 0 ∧ ms.length = b.ts.length) := Lib.hid fun h => by
    rw [← EHE.out] at h
    unfold holdsE at h
    rw [ECK.out] at h
    by_cases g1 : CK = 0
    · by_cases g2 : ms.length = b.ts.length
      · exact ⟨g1, g2⟩
      · simp [g1, g2] at h
    · simp [g1] at h
  have HFN : Hid (∀ d : Bool, (d = true ↔ ms.length ≠ b.ts.length) → firstNZ [CK, whenB d 2] = HE) := Lib.hid fun d hd => by
    rw [← EHE.out]
    unfold holdsE
    rw [ECK.out]
    by_cases g1 : CK = 0
    · by_cases g2 : ms.length = b.ts.length
      · have : d = false := Bool.eq_false_iff.2 fun h => (hd.1 h) g2
        subst this
        simp [firstNZ, g1, g2, whenB]
      · have := hd.2 g2
        subst this
        simp [firstNZ, g1, g2, whenB]
    · simp [firstNZ, g1]
  obtain ⟨d, hd⟩ : ∃ d : Bool, ((ms.length : Int) != (b.ts.length : Int)) = d := ⟨_, rfl⟩
  have hd2 := HFN.out d (by rw [← hd]; simp; omega)
  have HD2 := Lib.hid hd2
  clear hd2
  have HF := Lib.hid (first18 (.slice (some ⟨w5.heap.size, 0, none⟩) 2 2) [CK, whenB d 2] _ (Sl.lit encI_len _ w5 #[.int .i64 CK, .int .i64 (whenB d 2)] 3 2 rfl rfl (by simp)))
  rw [HD2.out] at HF
  go_wp2_with (go_at_call 27; refine (when27 _ _ _).mono ?_; rintro e w' ⟨rfl, rfl⟩)
  have HB6 := Lib.hid (show Below w.heap.size w (w5.alloc (.cells #[.int .i64 CK, .int .i64 (whenB d 2)] 3)) from HB5.out.alloc HB5.out.size _)
  have HX6 := Lib.hid (HX5.out.alloc (.cells #[.int .i64 CK, .int .i64 (whenB d 2)] 3))
  generalize w5.alloc (.cells #[.int .i64 CK, .int .i64 (whenB d 2)] 3) = w6 at *
  clear x0 x1 xf xz hd HX5 HB5
  obtain ⟨x0, x1, xf, xz⟩ := HX6.out.v2
  refine HF.out.mono ?_
  rintro e w' ⟨rfl, rfl⟩
  by_cases h0 : HE = 0
  · subst h0
    obtain ⟨z1, z2⟩ := HZ.out rfl
    have C28b := Lib.hid (fun w1 (hb : Below w.heap.size w w1) => C28.out w1 hb z2 z1)
    have HOK := Lib.hid (okBk_of (ECK.out.trans z1))
    clear z1 z2
    go_wp2_with fail
    go_loop [8] (fun i => ∃ k : Nat, k ≤ ms.length ∧ i = .int .i64 k) (fun i => ms.length - (intOf i).toNat)
    case atStart => exact ⟨0, by omega, rfl⟩
    case round =>
      obtain ⟨k, hk, rfl⟩ := hrel
      by_cases hlt : k < ms.length
      · obtain ⟨bb, off, rfl, hbb, hcells⟩ := HA3.out (by omega)
        have f0 := ((hcells k hlt).below HB6.out hbb).c1
        rw [Nat.mul_one] at f0
        have HFN2 := Lib.hid (far_not HOK.out k hlt)
        obtain ⟨y, hy⟩ : ∃ y, ms[k] = y := ⟨_, rfl⟩
        rw [hy] at f0 HFN2
        clear hcells hy HA3
        by_cases h1 : y < -999999999
        · have hf : R = false := Bool.eq_false_iff.2 fun hT => HFN2.out (.inl h1) (HR.out.1 hT).2
          subst hf
          go_wp2_with fail
          go_ret
          exact ⟨rfl, HB6.out⟩
        by_cases h2 : 999999999 < y
        · have hf : R = false := Bool.eq_false_iff.2 fun hT => HFN2.out (.inr h2) (HR.out.1 hT).2
          subst hf
          go_wp2_with fail
          go_ret
          exact ⟨rfl, HB6.out⟩
        · go_wp2_with fail
          go_round
          case rel => exact ⟨k + 1, by omega, by go_num⟩
          case measure => simp [intOf]; omega
      · obtain rfl : ms.length = k := by omega
        go_wp2_with fail
        refine (C28b.out _ HB6.out).mono ?_
        rintro e w7 ⟨rfl, hb7⟩
        have HB7 := Lib.hid (HB6.out.trans (hb7.mono HB6.out.size))
        clear hb7
        cases R
        all_goals
          go_wp2_with fail
          go_ret
          exact ⟨rfl, HB7.out⟩
  · have hne : (HE == 0) = false := by simp [h0]
    have hf := HRF.out h0
    subst hf
    go_wp2_with fail
    go_ret
    exact ⟨rfl, HB6.out⟩
end Go.Proofs.Ytlakcghdehdeiaa

namespace Go.Proofs.Ytlakcghdehdeiaa
open Go Go.Proofs Go.RowKit Go.ChangeShapes Go.WideShapes Go.ChangeAt Go.Joins Go.Deep

set_option maxRecDepth 100000 in
theorem weighBooks_contract (H : Type) (enc : TypeId × Value → H) (W : World) (base : Nat) (args : Array Value) (ds gs : List (DataW H)) (before : List MemPlace)
    (hval : ∀ (j : Nat) t v, Try.f4.params[j]? = some t → args[j]? = some v → Value.okWide Try.prog W .any base t v)
    (hW : DataW.Whole enc Try.prog Try.f4.params.toList Rows.weighBooksSpec.vars false W args.toList ds gs before) :
    Calls Try.prog 4 args W fun e W' => ∃ v, e = .returned v ∧ Rows.weighBooksSpec.post enc Try.prog Try.f4 false true false false W args v W' := by
  have hW' := hW
  obtain ⟨p, q, hA0, hV, rfl, hfz, hnd⟩ := hW
  have hA : DataW.TrodAll enc Try.prog W 0 (fun _ => true) true Try.f4.params.toList args.toList ds p := hA0
  rw [Try.params4] at hA hval
  obtain ⟨v0, v1, d0, d1, p0, p1, rfl, rfl, rfl, h0, h1⟩ := trodAll_two hA
  obtain ⟨a0, n0, c0, d0, m0, e0, rfl, hn0, hm0, hl0⟩ := bk_open (hval 0 38 v0 rfl rfl) h0
  obtain ⟨a1, n1, c1, rfl⟩ := okWide_slice Try.underlying22 (hval 1 22 v1 rfl rfl)
  obtain ⟨hn1, hl1⟩ := sl_ints h1
  have key : Calls Try.prog 4 #[.agg #[.slice a0 n0 c0, .slice d0 m0 e0], .slice a1 n1 c1] W (Ret (.bool true) W) := by
    by_cases hbig : 40 < n0 ∨ 132 < m0
    · exact books4_aside _ _ a1 n1 c1 W hn1 (fun w1 _ => heavy23_big a0 d0 n0 c0 m0 e0 w1 hn0 hm0 hbig) ⟨⟨_, _, _, rfl⟩, _, _, _, rfl⟩
    · obtain ⟨b, hb1, hb2, hb, _⟩ := hl0 (by omega) (by omega)
      by_cases hbig2 : 140 < n1
      · exact books4_many _ _ a1 n1 c1 W b hb hn1 hbig2
      · obtain ⟨l, hll, hs, _⟩ := hl1 (by omega)
        exact books4 _ _ _ W b l hb hs (by omega)
  refine key.mono fun e W' ⟨he, hb⟩ => ⟨_, he, ?_⟩
  exact law_post rfl rfl rfl (by rw [Try.params4]; decide) hW' rfl rfl rfl hb

set_option maxRecDepth 100000 in
theorem weighBooks_lifted (os : Os) (started : os.Started) (H : Type) (enc : TypeId × Value → H) :
    ReturnsInHanded {} Try.checked os 4 .any (Rows.weighBooksSpec.pre6 enc Try.prog Try.f4 Rows.weighBooksRow.domain false) (Rows.weighBooksSpec.post enc Try.prog Try.f4 false true false false) := by
  refine returnsInHanded_of_change (C := Try.checked) Try.own started (by kernel_rfl) Try.func4
    (ChangeSpec.witness6 (enc := enc) (C := Try.checked) false ⟨#[], #[.agg #[.slice none 0 0, .slice none 0 0], .slice none 0 0], []⟩ 8 (by kernel_rfl) (by kernel_rfl) (by kernel_rfl) (by kernel_rfl)) ?_
  intro W base args ds gs before hval hW _ _
  exact weighBooks_contract H enc W base args ds gs before hval hW

theorem weighBooks_holds : Rows.WeighBooksSaid :=
  OpenClaim.holds_of_wide 4 Try.f4 rfl rfl rfl rfl rfl rfl rfl ⟨rfl, rfl, rfl, rfl, rfl⟩ rfl rfl rfl rfl rfl (by kernel_rfl) Try.func4 (by kernel_rfl)
    (of_decide_eq_true (by kernel_rfl)) (by unfold Func.isWrapper; first | (rw [if_pos (by decide +kernel)]; kernel_rfl) | (rw [if_neg (by decide +kernel)]; exact ⟨rfl, rfl⟩))
    (fun os started H enc _ => weighBooks_lifted os started H enc)
end Go.Proofs.Ytlakcghdehdeiaa
