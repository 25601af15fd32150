/- Lemmas on the way to the law TopChanges (part 20): Ge Gf Gg Rf Rg -/
import Derived.Test.YtflchbejjofppaaGreatDoorTopChangesP17
import Derived.Lib.Atoi
import Derived.Lib.IndexMore
import Derived.Lib.IndexBytes
import Derived.Lib.Strings
import Derived.Lib.SlTrimSet
import Derived.Lib.SmallJoins
import Derived.Test.YtflchbejjofppaaGreatDoorTopChangesP11
set_option linter.unusedVariables false
set_option linter.unusedSimpArgs false

/- Walks: powers of ten (num.Int.Pow). -/
namespace Go.Proofs.YtflchbejjofppaaGreatDoor.Nu
open Go Go.Proofs Go.RowKit Go.Proofs.YtflchbejjofppaaGreatDoor
theorem pow_sm {r : Nat} (h : r ≤ 18) : Sm ((10 : Int) ^ r) := by
  have h1 : (10 : Int) ^ r ≤ 10 ^ 18 := by
    have := Nat.pow_le_pow_right (show 0 < 10 by decide) h
    have e : ∀ n : Nat, (10 : Int) ^ n = ((10 ^ n : Nat) : Int) := fun n => by rw [Int.natCast_pow]; rfl
    rw [e, e]; omega
  have h2 : (0 : Int) ≤ 10 ^ r := Int.pow_nonneg (by decide)
  exact ⟨by omega, by omega⟩
set_option maxRecDepth 100000 in
set_option maxHeartbeats 4000000 in
theorem spow121 (w : World) (n : Nat) (hn : n ≤ 18) : Calls Tryz.prog 121 #[.agg #[.int .i64 10, .slice none 0 0], .int .i64 (n : Int)] w (Ret (.agg #[.int .i64 (10 ^ n), .slice none 0 0]) w) := by
  have HO := Lib.hid (fun (w1 : World) (n : Int) => of94 n w1)
  have HM := Lib.hid (fun (w1 : World) (r q s : Nat) (h : r + q = s) (hs : s ≤ 18) => (by
    have h := smul72 w1 (10 ^ r) (10 ^ q) (pow_sm (by omega)) (pow_sm (by omega)) (by rw [← Int.pow_add, h]; exact pow_sm hs)
    rw [← Int.pow_add] at h; subst s; exact h : Calls Tryz.prog 72 #[.agg #[.int .i64 (10 ^ r), .slice none 0 0], .agg #[.int .i64 (10 ^ q), .slice none 0 0]] w1 (Ret (.agg #[.int .i64 (10 ^ s), .slice none 0 0]) w1)))
  have HP := Lib.hid (fun (n : Nat) => show (10 : Int) ^ n = 10 ^ n from rfl)
  have HP1 := Lib.hid (show (10 : Int) ^ 1 = 10 ∧ (10 : Int) ^ 0 = 1 from ⟨by decide, by decide⟩)
  obtain ⟨p, hp⟩ : ∃ p : Nat → Int, (fun n => (10 : Int) ^ n) = p := ⟨_, rfl⟩
  have hp' : ∀ n : Nat, (10 : Int) ^ n = p n := fun n => congrFun hp n
  have HM2 := Lib.hid (fun (w1 : World) (r q s : Nat) (h : r + q = s) (hs : s ≤ 18) => (by
    have h := HM.out w1 r q s h hs
    rw [hp' r, hp' q, hp' s] at h; exact h : Calls Tryz.prog 72 #[.agg #[.int .i64 (p r), .slice none 0 0], .agg #[.int .i64 (p q), .slice none 0 0]] w1 (Ret (.agg #[.int .i64 (p s), .slice none 0 0]) w1)))
  rw [hp' 1, hp' 0] at HP1
  rw [hp' n]
  clear HM HP hp hp'
  have HN := Lib.hid hn
  clear hn
  have HB_0 := Lib.hid ((Below.refl w.heap.size w).alloc (Nat.le_refl _) (.cells #[.int .i64 10, .slice none 0 0] 81))
  have HB := Lib.hid (HB_0.out.alloc HB_0.out.size (.cells #[.int .i64 0, .slice none 0 0] 81))
  have HX := Lib.hid ((Box.new w #[.int .i64 10, .slice none 0 0] 81).alloc (.cells #[.int .i64 0, .slice none 0 0] 81))
  have HZ := Lib.hid (Box.newAt (w.alloc (.cells #[.int .i64 10, .slice none 0 0] 81)) #[.int .i64 0, .slice none 0 0] 81 (n := w.heap.size + 1) (by simp))
  obtain ⟨x0, x1, xf, xz⟩ := HX.out.v2
  obtain ⟨z0, z1, zf, zz⟩ := HZ.out.v2
  clear HB_0
  go_enter Tryz.func121, Tryz.ntmps121
  go_wp2_with fail
  refine (HO.out _ _).mono ?_
  rintro e4 w4 ⟨rfl, hb⟩
  replace HB := Lib.hid (HB.out.trans (hb.mono HB.out.size))
  replace HX := Lib.hid (HX.out.later hb)
  replace HZ := Lib.hid (HZ.out.later hb)
  clear hb x0 x1 xf xz z0 z1 zf zz
  obtain ⟨x0, x1, xf, xz⟩ := HX.out.v2
  obtain ⟨z0, z1, zf, zz⟩ := HZ.out.v2
  have HR := Lib.hid (Box.new w4 #[.int .i64 1, .slice none 0 0] 81)
  have HB4 := Lib.hid (HB.out.alloc HB.out.size (.cells #[.int .i64 1, .slice none 0 0] 81))
  have HX4 := Lib.hid (HX.out.alloc (.cells #[.int .i64 1, .slice none 0 0] 81))
  have HZ4 := Lib.hid (HZ.out.alloc (.cells #[.int .i64 1, .slice none 0 0] 81))
  have HLT := Lib.hid (show w.heap.size < w4.heap.size ∧ w.heap.size + 1 < w4.heap.size from ⟨HX.out.lt, HZ.out.lt⟩)
  go_wp2_with fail
  clear x0 x1 xf xz z0 z1 zf zz HX HZ HB
  generalize w4.alloc (.cells #[.int .i64 1, .slice none 0 0] 81) = w5 at *
  generalize w4.heap.size = g at *
  go_loopw [1] (fun i wr => ∃ r q k : Nat, r + q * k = n ∧ q ≠ 0 ∧ i = .int .i64 (k : Int) ∧ Below w.heap.size w wr ∧ Box wr w.heap.size 81 [.int .i64 (p q), .slice none 0 0] ∧ Box wr g 81 [.int .i64 (p r), .slice none 0 0] ∧ Box wr (w.heap.size + 1) 81 [.int .i64 0, .slice none 0 0]) (fun i _ => (intOf i).toNat)
  case atStart => exact ⟨0, 1, n, by omega, by decide, rfl, HB4.out, by rw [HP1.out.1]; exact HX4.out, by rw [HP1.out.2]; exact HR.out, HZ4.out⟩
  case round =>
    obtain ⟨r, q, k, hk, HQ, rfl, hbe, hbx, hbr, hbz⟩ := hrel
    have HX := Lib.hid hbx
    have HR := Lib.hid hbr
    have HZ := Lib.hid hbz
    have HB := Lib.hid hbe
    have HK := Lib.hid hk
    clear hk hbe hbx hbr hbz HX4 HZ4 HB4
    obtain ⟨x0, x1, xf, xz⟩ := HX.out.v2
    obtain ⟨r0, r1, rf, rz⟩ := HR.out.v2
    obtain ⟨z0, z1, zf, zz⟩ := HZ.out.v2
    by_cases h0 : k = 0
    · subst h0
      have e : r = n := by have := HK.out; omega
      subst e
      go_wp2_with fail
      refine bodyPost_ret (v := .agg #[.int .i64 (p r), .slice none 0 0]) (by simp [results, Tryz.results121, go_sem, *]) rfl ?_
      refine Ret.mk rfl ?_
      repeat (first | with_reducible exact HB.out | with_reducible exact Below.refl _ _ | refine Below.setCell ?_ (by first | (dsimp only; omega) | (simp; done) | (simp; omega)) _ | refine Below.alloc ?_ (by first | omega | (simp; done) | (simp; omega)) _ | refine Below.drew ?_)
    · have d0 : decide ((0 : Int) < (k : Int)) = true := decide_eq_true (by omega)
      have hk18 : q = 0 ∨ k ≤ 18 := by
        rcases Nat.eq_zero_or_pos q with h | h
        · exact .inl h
        · have := HK.out; have := HN.out; have := Nat.le_mul_of_pos_left k h; exact .inr (by omega)
      have k1 : (k : Int) / 2 = ((k / 2 : Nat) : Int) := by omega
      have hq1 : q ≠ 0 := HQ
      have hbit : bits BinOp.and IntKind.i64 (k : Int) 1 = ((k % 2 : Nat) : Int) := by
        have : ∀ k : Nat, k < 19 → bits BinOp.and IntKind.i64 (k : Int) 1 = ((k % 2 : Nat) : Int) := by decide
        exact this k (by omega)
      have hd : (k % 2 = 1 ∧ 1 < k) ∨ (k % 2 = 1 ∧ k = 1) ∨ (k % 2 = 0 ∧ 1 < k) := by omega
      obtain ⟨h, hh⟩ : ∃ h, k / 2 = h := ⟨_, rfl⟩
      have HH := Lib.hid (show k = 2 * h + k % 2 by omega)
      rw [hh] at k1
      have HMU := Lib.hid (show q * k = q * 2 * h + q * (k % 2) by rw [Nat.mul_assoc, ← Nat.mul_add, ← HH.out])
      clear hk18 hh
      have hpos : 0 < k := by omega
      have d2 : decide (0 < k) = true := decide_eq_true (by omega)
      clear h0 hq1
      rcases hd with ⟨hp, h1⟩ | ⟨hp, h1⟩ | ⟨hp, h1⟩
      · rw [hp] at hbit HMU
        have d1 : decide ((1 : Int) < (k : Int)) = true := decide_eq_true (by omega)
        have d3 : decide (1 < k) = true := decide_eq_true (by omega)
        clear hp
        go_wp2_with fail
        refine (HM2.out wr r q (r + q) rfl (by have := HK.out; have := HN.out; have := HMU.out; have := Nat.le_mul_of_pos_right q (show 0 < k by omega); omega)).mono ?_
        rintro e6 w6 ⟨rfl, hb⟩
        have HB6 := Lib.hid (HB.out.trans (hb.mono HB.out.size))
        have HX6 := Lib.hid (HX.out.later hb)
        have HR6 := Lib.hid (HR.out.later hb)
        have HZ6 := Lib.hid (HZ.out.later hb)
        clear hb x0 x1 xf xz r0 r1 rf rz z0 z1 zf zz HX HR HZ HB
        have HX := Lib.hid ((HX6.out.other (a := ⟨g, 0, none⟩) (.int .i64 (p (r + q))) (by have := HLT.out; dsimp only; omega)).other (a := ⟨g, 1, none⟩) (.slice none 0 0) (by have := HLT.out; dsimp only; omega))
        have HR := Lib.hid ((HR6.out.set 0 (.int .i64 (p (r + q)))).set 1 (.slice none 0 0))
        have HZ := Lib.hid ((HZ6.out.other (a := ⟨g, 0, none⟩) (.int .i64 (p (r + q))) (by have := HLT.out; dsimp only; omega)).other (a := ⟨g, 1, none⟩) (.slice none 0 0) (by have := HLT.out; dsimp only; omega))
        have HB := Lib.hid ((HB6.out.setCell (p := ⟨g, 0, none⟩) (by have := HLT.out; dsimp only; omega) (.int .i64 (p (r + q)))).setCell (p := ⟨g, 1, none⟩) (by have := HLT.out; dsimp only; omega) (.slice none 0 0))
        obtain ⟨r0, r1, rf, rz⟩ := HR6.out.v2
        obtain ⟨x0, x1, xf, xz⟩ := HX.out.v2
        clear HX6 HZ6 HB6
        go_wp2_with fail
        refine (HM2.out _ q q (q * 2) (by omega) (by have := HK.out; have := HN.out; have := HMU.out; have : q * 2 * 1 ≤ q * 2 * h := Nat.mul_le_mul_left _ (by omega); omega)).mono ?_
        rintro e7 w7 ⟨rfl, hb⟩
        have HB6 := Lib.hid (HB.out.trans (hb.mono HB.out.size))
        have HX6 := Lib.hid (HX.out.later hb)
        have HR6 := Lib.hid (HR.out.later hb)
        have HZ6 := Lib.hid (HZ.out.later hb)
        clear hb x0 x1 xf xz HX HR HZ HB
        try clear r0 r1 rf rz
        try clear z0 z1 zf zz
        obtain ⟨x0, x1, xf, xz⟩ := HX6.out.v2
        go_wp2_with fail
        go_roundw
        case rel =>
          refine ⟨r + q, q * 2, h, by have := HK.out; have := HMU.out; omega, by omega, by go_num, ?_, (HX6.out.set 0 (.int .i64 (p (q * 2)))).set 1 (.slice none 0 0), (HR6.out.other (a := ⟨w.heap.size, 0, none⟩) (.int .i64 (p (q * 2))) (by have := HLT.out; dsimp only; omega)).other (a := ⟨w.heap.size, 1, none⟩) (.slice none 0 0) (by have := HLT.out; dsimp only; omega), (HZ6.out.other (a := ⟨w.heap.size, 0, none⟩) (.int .i64 (p (q * 2))) (by dsimp only; omega)).other (a := ⟨w.heap.size, 1, none⟩) (.slice none 0 0) (by dsimp only; omega)⟩
          repeat (first | with_reducible exact HB6.out | with_reducible exact Below.refl _ _ | refine Below.setCell ?_ (by first | (dsimp only; omega) | (simp; done) | (simp; omega)) _ | refine Below.alloc ?_ (by first | omega | (simp; done) | (simp; omega)) _ | refine Below.drew ?_)
        case measure => simp [intOf]; omega
      · rw [hp] at hbit HMU
        have d1 : decide ((1 : Int) < (k : Int)) = false := decide_eq_false (by omega)
        have d3 : decide (1 < k) = false := decide_eq_false (by omega)
        clear hp
        go_wp2_with fail
        refine (HM2.out wr r q (r + q) rfl (by have := HK.out; have := HN.out; have := HMU.out; have := Nat.le_mul_of_pos_right q (show 0 < k by omega); omega)).mono ?_
        rintro e6 w6 ⟨rfl, hb⟩
        have HB6 := Lib.hid (HB.out.trans (hb.mono HB.out.size))
        have HX6 := Lib.hid (HX.out.later hb)
        have HR6 := Lib.hid (HR.out.later hb)
        have HZ6 := Lib.hid (HZ.out.later hb)
        clear hb x0 x1 xf xz r0 r1 rf rz z0 z1 zf zz HX HR HZ HB
        have HX := Lib.hid ((HX6.out.other (a := ⟨g, 0, none⟩) (.int .i64 (p (r + q))) (by have := HLT.out; dsimp only; omega)).other (a := ⟨g, 1, none⟩) (.slice none 0 0) (by have := HLT.out; dsimp only; omega))
        have HR := Lib.hid ((HR6.out.set 0 (.int .i64 (p (r + q)))).set 1 (.slice none 0 0))
        have HZ := Lib.hid ((HZ6.out.other (a := ⟨g, 0, none⟩) (.int .i64 (p (r + q))) (by have := HLT.out; dsimp only; omega)).other (a := ⟨g, 1, none⟩) (.slice none 0 0) (by have := HLT.out; dsimp only; omega))
        have HB := Lib.hid ((HB6.out.setCell (p := ⟨g, 0, none⟩) (by have := HLT.out; dsimp only; omega) (.int .i64 (p (r + q)))).setCell (p := ⟨g, 1, none⟩) (by have := HLT.out; dsimp only; omega) (.slice none 0 0))
        obtain ⟨r0, r1, rf, rz⟩ := HR6.out.v2
        obtain ⟨x0, x1, xf, xz⟩ := HX.out.v2
        clear HX6 HZ6 HB6
        go_wp2_with fail
        go_roundw
        case rel =>
          have e : h = 0 := by have := HH.out; omega
          subst e
          exact ⟨r + q, q, 0, by have := HK.out; have := HMU.out; omega, HQ, by go_num, HB.out, HX.out, HR.out, HZ.out⟩
        case measure => simp [intOf]; omega
      · rw [hp] at hbit HMU
        have d1 : decide ((1 : Int) < (k : Int)) = true := decide_eq_true (by omega)
        have d3 : decide (1 < k) = true := decide_eq_true (by omega)
        clear hp
        go_wp2_with fail
        refine (HM2.out _ q q (q * 2) (by omega) (by have := HK.out; have := HN.out; have := HMU.out; have : q * 2 * 1 ≤ q * 2 * h := Nat.mul_le_mul_left _ (by omega); omega)).mono ?_
        rintro e7 w7 ⟨rfl, hb⟩
        have HB6 := Lib.hid (HB.out.trans (hb.mono HB.out.size))
        have HX6 := Lib.hid (HX.out.later hb)
        have HR6 := Lib.hid (HR.out.later hb)
        have HZ6 := Lib.hid (HZ.out.later hb)
        clear hb x0 x1 xf xz HX HR HZ HB
        try clear r0 r1 rf rz
        try clear z0 z1 zf zz
        obtain ⟨x0, x1, xf, xz⟩ := HX6.out.v2
        go_wp2_with fail
        go_roundw
        case rel =>
          refine ⟨r, q * 2, h, by have := HK.out; have := HMU.out; omega, by omega, by go_num, ?_, (HX6.out.set 0 (.int .i64 (p (q * 2)))).set 1 (.slice none 0 0), (HR6.out.other (a := ⟨w.heap.size, 0, none⟩) (.int .i64 (p (q * 2))) (by have := HLT.out; dsimp only; omega)).other (a := ⟨w.heap.size, 1, none⟩) (.slice none 0 0) (by have := HLT.out; dsimp only; omega), (HZ6.out.other (a := ⟨w.heap.size, 0, none⟩) (.int .i64 (p (q * 2))) (by dsimp only; omega)).other (a := ⟨w.heap.size, 1, none⟩) (.slice none 0 0) (by dsimp only; omega)⟩
          repeat (first | with_reducible exact HB6.out | with_reducible exact Below.refl _ _ | refine Below.setCell ?_ (by first | (dsimp only; omega) | (simp; done) | (simp; omega)) _ | refine Below.alloc ?_ (by first | omega | (simp; done) | (simp; omega)) _ | refine Below.drew ?_)
        case measure => simp [intOf]; omega
end Go.Proofs.YtflchbejjofppaaGreatDoor.Nu
/- Plain: what the library's functions on texts make of numerals. -/
namespace Go.Proofs.YtflchbejjofppaaGreatDoor
open Go.Lib
theorem decFrom_dig : ∀ (l : List UInt8) (a : Nat), (∀ c ∈ l, isDig c) → decFrom a l = some (l.foldl (fun n c => 10 * n + (c.toNat - 48)) a) := by
  intro l
  induction l with
  | nil => intro a _; rfl
  | cons c l ih =>
    intro a h
    have hc := h c List.mem_cons_self
    obtain ⟨hc1, hc2⟩ := hc
    unfold decFrom digitVal
    rw [if_pos (show 48 ≤ c.toNat ∧ c.toNat ≤ 57 from ⟨hc1, hc2⟩)]
    simp only [List.foldl_cons]
    rw [Nat.mul_comm a 10]
    exact ih _ (fun x hx => h x (List.mem_cons_of_mem _ hx))
theorem atoi_dig {l : List UInt8} (h : ∀ c ∈ l, isDig c) (h0 : l ≠ []) : atoi l = some (dval l : Int) := by
  cases l with
  | nil => exact absurd rfl h0
  | cons b r =>
    have hb := h b List.mem_cons_self
    have e1 : (b == 45) = false := beq_eq_false_iff_ne.2 (by rintro rfl; exact absurd hb (by decide))
    have e2 : (b == 43) = false := beq_eq_false_iff_ne.2 (by rintro rfl; exact absurd hb (by decide))
    unfold atoi
    dsimp only
    rw [e1, e2]
    simp only [Bool.false_eq_true, if_false]
    unfold decNat
    rw [if_neg (by simp), decFrom_dig _ _ h]
    rfl
theorem hasPrefix_one (l : List UInt8) (c : UInt8) : hasPrefix l [c] = decide (l.head? = some c) := by
  unfold hasPrefix
  cases l with
  | nil => simp [List.isPrefixOf]
  | cons b l =>
    simp only [List.isPrefixOf, List.head?_cons, Option.some.injEq, Bool.and_true]
    by_cases h : c = b
    · subst h; simp
    · rw [decide_eq_false (fun e => h e.symm)]; simpa using h
theorem hasPrefix_itoa (z : Int) : hasPrefix (itoa z) [45] = decide (z < 0) := by
  rw [hasPrefix_one]
  by_cases h : z < 0
  · rw [itoa_ng h, decide_eq_true h]; simp
  · rw [decide_eq_false h, decide_eq_false (itoa_head_nn (by omega))]
theorem trimPrefix_itoa (z : Int) : trimPrefix (itoa z) [45] = decDigits z.natAbs := by
  unfold trimPrefix
  rw [hasPrefix_itoa]
  by_cases h : z < 0
  · rw [decide_eq_true h, itoa_ng h]; rfl
  · rw [decide_eq_false h, itoa_nn (by omega), show z.toNat = z.natAbs by omega]; rfl
theorem indexByte_none {l : List UInt8} {c : UInt8} (h : c ∉ l) : indexByte l c = -1 := by
  induction l with
  | nil => rfl
  | cons b l ih =>
    unfold indexByte
    rw [if_neg (by simp; rintro rfl; exact h List.mem_cons_self), ih (fun hx => h (List.mem_cons_of_mem _ hx))]
    rfl
theorem cut_none {l : List UInt8} {c : UInt8} (h : c ∉ l) : cut l [c] = (l, [], false) := by
  unfold cut
  rw [index_one, indexByte_none h]
  rfl
theorem cut_itoa (z : Int) : cut (itoa z) [47] = (itoa z, [], false) := cut_none (itoa_slash z)
def digT : List UInt8 := [48, 49, 50, 51, 52, 53, 54, 55, 56, 57]
theorem digT_mem {c : UInt8} (h : isDig c) : digT.contains c = true := by
  obtain ⟨h1, h2⟩ := h
  have hc : c = UInt8.ofNat c.toNat := by simp
  rw [hc]
  generalize c.toNat = n at *
  have : ∀ n : Nat, n < 58 → 48 ≤ n → digT.contains (UInt8.ofNat n) = true := by decide
  exact this n (by omega) h1
theorem dropWhile_all {α : Type} {p : α → Bool} {l : List α} (h : ∀ x ∈ l, p x = true) : l.dropWhile p = [] := by
  induction l with
  | nil => rfl
  | cons x l ih => rw [List.dropWhile_cons, if_pos (h x List.mem_cons_self)]; exact ih (fun y hy => h y (List.mem_cons_of_mem _ hy))
theorem trimS_dig {l : List UInt8} (h : ∀ c ∈ l, isDig c) : trimS l digT = [] := by
  unfold trimS trimRightS trimLeftS
  rw [dropWhile_all (l := l.reverse) (fun x hx => digT_mem (h x (List.mem_reverse.1 hx)))]
  rfl
end Go.Proofs.YtflchbejjofppaaGreatDoor
/- Walks: num.Read at short numerals. -/
namespace Go.Proofs.YtflchbejjofppaaGreatDoor.Nu
open Go Go.Proofs Go.RowKit Go.Proofs.YtflchbejjofppaaGreatDoor
def slen : Value → Nat
  | .string s => s.size
  | _ => 0
set_option maxRecDepth 100000 in
set_option maxHeartbeats 4000000 in
theorem sread90 (w : World) (z : Int) (hz : z.natAbs < 10 ^ 18) : Calls Tryz.prog 90 #[.string (txz z)] w (Ret (.agg #[.int .i64 z, .slice none 0 0]) w) := by
  have HO := Lib.hid (fun (w1 : World) (n : Int) => of94 n w1)
  have HPF := Lib.hid (fun (w1 : World) => (by
    have h := Tryz.strings_HasPrefix (txz z) ⟨#[45]⟩ w1
    rw [txz_list, show (⟨#[45]⟩ : ByteArray).data.toList = [45] from rfl, hasPrefix_itoa] at h
    exact h.mono (fun e w' h => ⟨h.1, h.2.symm⟩) : Calls Tryz.prog 119 #[.string (txz z), .string ⟨#[45]⟩] w1 fun e w' => e = .returned (.bool (decide (z < 0))) ∧ w1 = w'))
  have HTP := Lib.hid (fun (w1 : World) => (by
    have h := Tryz.strings_TrimPrefix (txz z) ⟨#[45]⟩ w1
    rw [txz_list, show (⟨#[45]⟩ : ByteArray).data.toList = [45] from rfl, trimPrefix_itoa] at h
    exact h.mono (fun e w' h => ⟨h.1, h.2.symm⟩) : Calls Tryz.prog 87 #[.string (txz z), .string ⟨#[45]⟩] w1 fun e w' => e = .returned (.string (tx (Lib.decDigits z.natAbs))) ∧ w1 = w'))
  have hlen : (Lib.decDigits z.natAbs).length ≤ 18 := (dec_len_le (by decide)).2 hz
  have hlen0 := dec_pos_len z.natAbs
  have HAT := Lib.hid (fun (w1 : World) => (by
    have h := Tryz.strconv_Atoi (tx (Lib.decDigits z.natAbs)) (z.natAbs : Int) (by rw [tx_size]; exact hlen) (by rw [tx_list, atoi_dig (dec_dig _) (dec_ne _), dval_dec]) w1
    exact h.mono (fun e w' h => ⟨h.1, by obtain ⟨t, rfl⟩ := h.2; exact Go.Joins.below_bytesWorld _ _ _ _ (Nat.le_refl _)⟩) : Calls Tryz.prog 120 #[.string (tx (Lib.decDigits z.natAbs))] w1 (Ret (.tuple #[.int .i64 (z.natAbs : Int), .nilIface]) w1)))
  have HPW := Lib.hid (fun (w1 : World) (n : Nat) (h : n ≤ 18) => spow121 w1 n h)
  have hsz : (tx (Lib.decDigits z.natAbs)).size = (Lib.decDigits z.natAbs).length := tx_size _
  have HFIN := Lib.hid (show (decide (z < 0) = true → z = -(z.natAbs : Int)) ∧ (decide (z < 0) = false → z = (z.natAbs : Int)) by
    refine ⟨fun h => ?_, fun h => ?_⟩
    · have := of_decide_eq_true h; omega
    · have := of_decide_eq_false h; omega)
  have HSM := Lib.hid (show Sm (z.natAbs : Int) from ⟨by omega, by have : (10 : Nat) ^ 18 = 1000000000000000000 := by decide
                                                                   omega⟩)
  obtain ⟨D, hD⟩ : ∃ D, tx (Lib.decDigits z.natAbs) = D := ⟨_, rfl⟩
  obtain ⟨n, hn⟩ : ∃ n, (Lib.decDigits z.natAbs).length = n := ⟨_, rfl⟩
  obtain ⟨m, hm⟩ : ∃ m : Int, (z.natAbs : Int) = m := ⟨_, rfl⟩
  obtain ⟨p, hp⟩ : ∃ p, decide (z < 0) = p := ⟨_, rfl⟩
  obtain ⟨X, hX⟩ : ∃ X, txz z = X := ⟨_, rfl⟩
  rw [hp, hX] at HPF
  rw [hX, hD] at HTP
  rw [hn] at hlen hlen0 hsz
  rw [hD] at hsz HAT
  rw [hm] at HAT HFIN HSM
  rw [hp] at HFIN
  rw [hX]
  have HX1 : D.extract 0 n = D := by rw [← hsz]; exact ByteArray.extract_zero_size
  have HX2 : D.extract n n = ⟨#[]⟩ := ByteArray.ext (by simp)
  have HMM := Lib.hid (fun (w1 : World) => (by
    have h := smul72 w1 0 (10 ^ n) ⟨by omega, by omega⟩ (pow_sm hlen) (by rw [Int.zero_mul]; exact ⟨by omega, by omega⟩)
    rwa [Int.zero_mul] at h : Calls Tryz.prog 72 #[.agg #[.int .i64 0, .slice none 0 0], .agg #[.int .i64 (10 ^ n), .slice none 0 0]] w1 (Ret (.agg #[.int .i64 0, .slice none 0 0]) w1)))
  have HAA := Lib.hid (fun (w1 : World) => (by
    have h := sadd70 w1 0 m (by rw [Int.zero_add]; exact HSM.out)
    rwa [Int.zero_add] at h : Calls Tryz.prog 70 #[.agg #[.int .i64 0, .slice none 0 0], .agg #[.int .i64 m, .slice none 0 0]] w1 (Ret (.agg #[.int .i64 m, .slice none 0 0]) w1)))
  have HNG := Lib.hid (fun (w1 : World) => sneg101 w1 m HSM.out)
  have HPN := Lib.hid (fun (w1 : World) => HPW.out w1 n hlen)
  obtain ⟨P, hP⟩ : ∃ P : Int, 10 ^ n = P := ⟨_, rfl⟩
  rw [hP] at HMM HPN
  clear hP hm hp hX hn hD hz HPW HSM
  have HB_0 := Lib.hid ((Below.refl w.heap.size w).alloc (Nat.le_refl _) (.cells #[.int .i64 0, .slice none 0 0] 81))
  have HB := Lib.hid (HB_0.out.alloc HB_0.out.size (.cells #[.int .i64 0, .slice none 0 0] 81))
  have HX := Lib.hid ((Box.new w #[.int .i64 0, .slice none 0 0] 81).alloc (.cells #[.int .i64 0, .slice none 0 0] 81))
  have HY := Lib.hid (Box.newAt (w.alloc (.cells #[.int .i64 0, .slice none 0 0] 81)) #[.int .i64 0, .slice none 0 0] 81 (n := w.heap.size + 1) (by simp))
  obtain ⟨x0, x1, xf, xz⟩ := HX.out.v2
  obtain ⟨y0, y1, yf, yz⟩ := HY.out.v2
  clear HB_0
  go_enter Tryz.func90, Tryz.ntmps90
  go_wp2_with fail
  refine (HPF.out _).mono ?_
  rintro e4 w4 ⟨rfl, rfl⟩
  go_wp2_with fail
  refine (HTP.out _).mono ?_
  rintro e5 w5 ⟨rfl, rfl⟩
  go_wp2_with fail
  go_loopw [0] (fun s wr => Below w.heap.size w wr ∧ Box wr w.heap.size 81 [.int .i64 0, .slice none 0 0] ∧ ((s = .string D ∧ Box wr (w.heap.size + 1) 81 [.int .i64 0, .slice none 0 0]) ∨ (s = .string ⟨#[]⟩ ∧ Box wr (w.heap.size + 1) 81 [.int .i64 m, .slice none 0 0]))) (fun s _ => slen s)
  case atStart => exact ⟨HB.out, HX.out, .inl ⟨rfl, HY.out⟩⟩
  case round =>
    obtain ⟨hbe, hbx, hway⟩ := hrel
    clear HX HY HB x0 x1 xf xz y0 y1 yf yz
    have HX := Lib.hid hbx
    have HB := Lib.hid hbe
    clear hbx hbe
    obtain ⟨x0, x1, xf, xz⟩ := HX.out.v2
    rcases hway with ⟨rfl, hy⟩ | ⟨rfl, hy⟩
    · have HY := Lib.hid hy
      clear hy
      obtain ⟨y0, y1, yf, yz⟩ := HY.out.v2
      have d0 : decide (0 < n) = true := decide_eq_true hlen0
      have d1 : min (18 : Int) (n : Int) = n := Int.min_eq_right (by omega)
      go_wp2_with fail
      refine (HAT.out _).mono ?_
      rintro e6 w6 ⟨rfl, hb⟩
      replace HB := Lib.hid (HB.out.trans (hb.mono HB.out.size))
      replace HX := Lib.hid (HX.out.later hb)
      replace HY := Lib.hid (HY.out.later hb)
      clear hb x0 x1 xf xz y0 y1 yf yz
      obtain ⟨x0, x1, xf, xz⟩ := HX.out.v2
      obtain ⟨y0, y1, yf, yz⟩ := HY.out.v2
      go_wp2_with fail
      refine wp_region_head_later 8 (by kernel_rfl) (by kernel_rfl) ?_
      simp only [List.take_succ_cons, List.take_zero, List.drop_succ_cons, List.drop_zero]
      repeat go_big_quiet_step ((first | (go_at_call 94; exact Calls.later (HO.out _ _)) | (go_at_call 121; exact Calls.later (HPN.out _)) | (go_at_call 72; exact Calls.later (HMM.out _)) | (go_at_call 70; exact Calls.later (HAA.out _))))
      refine wpQuiet_nil ?_
      rintro w2 ⟨⟨_, hb2⟩, rfl⟩
      replace HB := Lib.hid (HB.out.trans (hb2.mono HB.out.size))
      replace HX := Lib.hid (HX.out.later hb2)
      replace HY := Lib.hid (HY.out.later hb2)
      clear hb2 x0 x1 xf xz y0 y1 yf yz
      obtain ⟨x0, x1, xf, xz⟩ := HX.out.v2
      obtain ⟨y0, y1, yf, yz⟩ := HY.out.v2
      go_wp2_with fail
      go_roundw
      case rel =>
        refine ⟨?_, (HX.out.other (a := ⟨w.heap.size + 1, 0, none⟩) (.int .i64 m) (by simp)).other (a := ⟨w.heap.size + 1, 1, none⟩) (.slice none 0 0) (by simp), .inr ⟨rfl, (HY.out.set 0 (.int .i64 m)).set 1 (.slice none 0 0)⟩⟩
        repeat (first | with_reducible exact HB.out | with_reducible exact Below.refl _ _ | refine Below.setCell ?_ (by first | (dsimp only; omega) | (simp; done) | (simp; omega)) _ | refine Below.alloc ?_ (by first | omega | (simp; done) | (simp; omega)) _ | refine Below.drew ?_)
      case measure => simp [slen]; omega
    · have HY := Lib.hid hy
      clear hy
      obtain ⟨y0, y1, yf, yz⟩ := HY.out.v2
      cases p with
      | true =>
        have HZ := Lib.hid (HFIN.out.1 rfl)
        go_wp2_with fail
        refine (HNG.out _).mono ?_
        rintro e6 w6 ⟨rfl, hb⟩
        replace HB := Lib.hid (HB.out.trans (hb.mono HB.out.size))
        replace HX := Lib.hid (HX.out.later hb)
        replace HY := Lib.hid (HY.out.later hb)
        clear hb x0 x1 xf xz y0 y1 yf yz
        obtain ⟨x0, x1, xf, xz⟩ := HX.out.v2
        obtain ⟨y0, y1, yf, yz⟩ := HY.out.v2
        go_wp2_with fail
        refine bodyPost_ret (v := .agg #[.int .i64 (-m), .slice none 0 0]) (by simp [results, Tryz.results90, go_sem, *]) rfl ?_
        refine Ret.mk (by rw [HZ.out]) ?_
        repeat (first | with_reducible exact HB.out | with_reducible exact Below.refl _ _ | refine Below.setCell ?_ (by first | (dsimp only; omega) | (simp; done) | (simp; omega)) _ | refine Below.alloc ?_ (by first | omega | (simp; done) | (simp; omega)) _ | refine Below.drew ?_)
      | false =>
        have HZ := Lib.hid (HFIN.out.2 rfl)
        go_wp2_with fail
        refine bodyPost_ret (v := .agg #[.int .i64 m, .slice none 0 0]) (by simp [results, Tryz.results90, go_sem, *]) rfl ?_
        refine Ret.mk (by rw [HZ.out]) ?_
        repeat (first | with_reducible exact HB.out | with_reducible exact Below.refl _ _ | refine Below.setCell ?_ (by first | (dsimp only; omega) | (simp; done) | (simp; omega)) _ | refine Below.alloc ?_ (by first | omega | (simp; done) | (simp; omega)) _ | refine Below.drew ?_)
end Go.Proofs.YtflchbejjofppaaGreatDoor.Nu
/- A region that draws its order: quiet operations, then a call that all others wait for or are waited for by, then quiet operations in whatever order. -/
namespace Go
open Go.RowKit
section
variable {P : Program} {ops : Array Oper} {C : World → Prop}
structure SameW (W : World) where
  w : World
  h : w = W
instance (W : World) : Nonempty (SameW W) := ⟨⟨W, rfl⟩⟩
theorem SameW.cell {W : World} (X : SameW W) (b o : Nat) : X.w.cell? ⟨b, o, none⟩ = W.cell? ⟨b, o, none⟩ := by rw [X.h]
attribute [go_sem] SameW.cell
end
end Go
/- A region that draws its order, in which one operation calls a function that makes memory of its own: the operations that do not look at its answer come before it or behind it, those that do behind it; all but the call are quiet. -/
namespace Go
open Go.RowKit
section
def selF (f : Nat → Bool) : Nat → List Oper → List Oper
  | _, [] => []
  | k, o :: r => if f k then o :: selF f (k + 1) r else selF f (k + 1) r
theorem selF_mem (f : Nat → Bool) : ∀ (l : List Oper) (k : Nat) (o : Oper), o ∈ selF f k l → ∃ j, l[j]? = some o ∧ f (k + j) = true
  | [], _, _, h => by simp [selF] at h
  | x :: r, k, o, h => by
    unfold selF at h
    have hr : ∀ (h : o ∈ selF f (k + 1) r), ∃ j, (x :: r)[j]? = some o ∧ f (k + j) = true := fun h => by
      obtain ⟨j, h1, h2⟩ := selF_mem f r (k + 1) o h
      exact ⟨j + 1, by simpa using h1, by rw [show k + (j + 1) = k + 1 + j by omega]; exact h2⟩
    split at h
    · rename_i hf
      rcases List.mem_cons.1 h with rfl | h
      · exact ⟨0, rfl, by simpa using hf⟩
      · exact hr h
    · exact hr h
theorem selF_split (f : Nat → Bool) : ∀ (l : List Oper) (k i : Nat) (o : Oper), l[i]? = some o → f (k + i) = true →
    ∃ pre post, selF f k l = pre ++ o :: post ∧ (∀ p ∈ pre, ∃ j, j < i ∧ l[j]? = some p ∧ f (k + j) = true) ∧ (∀ j p, j < i → l[j]? = some p → f (k + j) = true → p ∈ pre)
  | [], _, i, o, h, _ => by simp at h
  | x :: r, k, 0, o, h, hf => by
    obtain rfl : x = o := by simpa using h
    unfold selF
    rw [if_pos (by simpa using hf)]
    exact ⟨[], _, rfl, by simp, fun j p hj => by omega⟩
  | x :: r, k, i + 1, o, h, hf => by
    obtain ⟨pre, post, h1, h2, h3⟩ := selF_split f r (k + 1) i o (by simpa using h) (by rw [show k + 1 + i = k + (i + 1) by omega]; exact hf)
    have h2' : ∀ p ∈ pre, ∃ j, j < i + 1 ∧ (x :: r)[j]? = some p ∧ f (k + j) = true := fun p hp => by
      obtain ⟨j, a1, a2, a3⟩ := h2 p hp
      exact ⟨j + 1, by omega, by simpa using a2, by rw [show k + (j + 1) = k + 1 + j by omega]; exact a3⟩
    unfold selF
    by_cases hx : f k = true
    · rw [if_pos hx, h1]
      refine ⟨x :: pre, post, rfl, fun p hp => ?_, fun j p hj hp hfj => ?_⟩
      · rcases List.mem_cons.1 hp with rfl | hp
        · exact ⟨0, by omega, rfl, by simpa using hx⟩
        · exact h2' p hp
      · cases j with
        | zero => obtain rfl : x = p := by simpa using hp
                  simp
        | succ j => exact List.mem_cons_of_mem _ (h3 j p (by omega) (by simpa using hp) (by rw [show k + 1 + j = k + (j + 1) by omega]; exact hfj))
    · rw [if_neg hx, h1]
      refine ⟨pre, post, rfl, h2', fun j p hj hp hfj => ?_⟩
      cases j with
      | zero => exact absurd (by simpa using hfj) hx
      | succ j => exact h3 j p (by omega) (by simpa using hp) (by rw [show k + 1 + j = k + (j + 1) by omega]; exact hfj)
theorem selF_pair (f : Nat → Bool) {R : Oper → Oper → Prop} : ∀ (l : List Oper) (k : Nat), (∀ (i j : Nat) (x y : Oper), i < j → l[i]? = some x → l[j]? = some y → R x y) → (selF f k l).Pairwise R
  | [], _, _ => by simp [selF]
  | x :: r, k, h => by
    have ih := selF_pair f r (k + 1) fun i j a b hij ha hb => h (i + 1) (j + 1) a b (by omega) (by simpa using ha) (by simpa using hb)
    unfold selF
    split
    · refine List.pairwise_cons.2 ⟨fun y hy => ?_, ih⟩
      obtain ⟨j, h1, _⟩ := selF_mem f r (k + 1) y hy
      exact h 0 (j + 1) x y (by omega) rfl (by simpa using h1)
    · exact ih
def Region.partB (ops : Array Oper) (b : Nat) (T : Nat → Bool) : Bool :=
  Region.noSelect ops && decide (b < ops.size) && !T b &&
  ((List.range ops.size).all fun i => match ops[i]? with | some o => o.after.all fun e => !Region.binds .any e || decide (e.on < i) | none => true) &&
  ((List.range ops.size).all fun i => (List.range ops.size).all fun j => Region.flowPair ops i j) &&
  (match ops[b]? with | some o => o.guard.isNone | none => false) &&
  ((List.range ops.size).all fun i => T i || ((List.range ops.size).all fun j => !(T j || j == b) || (i == b && j == b) || Region.blindTo ops i j)) &&
  ((List.range ops.size).all fun i => !T i || (List.range ops.size).any fun k => (k == b || T k) && Region.waitsFor .any ops i k)
variable {P : Program} {l : List Oper} {b : Nat} {T : Nat → Bool} {ob : Oper} {W : World} {a0 A1 : Act} {A2 : Value → Act} {D : Value → World → Prop} {Q : Exit → Act → World → Prop}
end
end Go
