/- Lemmas on the way to the law TopChanges (part 24): Hb Hc Hd He Lb -/
import Derived.Test.YtflchbejjofppaaGreatDoorTopChangesP22
import Derived.Test.YtflchbejjofppaaGreatDoorTopChangesP20
import Derived.Test.YtflchbejjofppaaGreatDoorTopChangesP21
import Derived.RegionTactic
import Derived.BigRegion
import Derived.Test.YtflchbejjofppaaGreatDoorTopChangesP14
import Derived.Test.YtflchbejjofppaaGreatDoorTopChangesP23
set_option linter.unusedVariables false
set_option linter.unusedSimpArgs false

/- Walks: the reference's decimal. -/
namespace Go.Proofs.YtflchbejjofppaaGreatDoor.Nu
open Go Go.Proofs Go.RowKit Go.Proofs.YtflchbejjofppaaGreatDoor
theorem padL_high : ∀ (k n : Nat), padL (k + 1) n = UInt8.ofNat (48 + n / 10 ^ k % 10) :: padL k n := by
  intro k
  induction k with
  | zero => intro n; simp [padL]
  | succ k ih =>
    intro n
    rw [padL, ih (n / 10), Nat.div_div_eq_div_mul, show 10 * 10 ^ k = 10 ^ (k + 1) by rw [Nat.pow_succ, Nat.mul_comm]]
    rfl
theorem digSub (d : Nat) (h : d < 10) : (⟨#[48, 49, 50, 51, 52, 53, 54, 55, 56, 57]⟩ : ByteArray).extract d (d + 1) = tx [UInt8.ofNat (48 + d)] := by
  have : ∀ d : Nat, d < 10 → ((digT.take (d + 1)).drop d) = [UInt8.ofNat (48 + d)] := by decide
  have h1 := tx_extract digT d (d + 1)
  rw [this d h] at h1
  exact h1
theorem tx_cons (c : UInt8) (l : List UInt8) : tx [c] ++ tx l = tx (c :: l) := tx_app [c] l
set_option maxRecDepth 100000 in
set_option maxHeartbeats 4000000 in
theorem decimal79 (w : World) (n L : Nat) (hn : n ≤ 9223372036854775807) (hL : 0 < L) (hL2 : L ≤ 100) : Calls Tryz.prog 79 #[.int .i64 (n : Int), .int .i64 (L : Int)] w fun e w' => e = .returned (.string (tx (padTo L (Lib.decDigits n)))) ∧ w = w' := by
  have HEN := Lib.hid (fun (k : Nat) (h1 : n / 10 ^ k = 0) (h2 : L ≤ k) (h3 : k ≤ L ∨ 10 ^ (k - 1) ≤ n) => (show padL k n = padTo L (Lib.decDigits n) from
    padL_end (by rcases Nat.lt_or_ge n (10 ^ k) with h | h; exact h; have := Nat.div_pos h (Nat.pow_pos (by decide)); omega) h2 hL (by omega)))
  have HD := Lib.hid (fun (m : Nat) => digSub (m % 10) (Nat.mod_lt _ (by decide)))
  have HPH := Lib.hid (fun (k : Nat) => padL_high k n)
  have HDV := Lib.hid (fun (k : Nat) => (show n / 10 ^ k / 10 = n / 10 ^ (k + 1) by rw [Nat.div_div_eq_div_mul, Nat.pow_succ]))
  have HLE := Lib.hid (fun (k : Nat) => Nat.div_le_self n (10 ^ k))
  have HPW := Lib.hid (fun (k : Nat) (h : 0 < n / 10 ^ k) => (show 10 ^ (k + 1 - 1) ≤ n by
    rw [Nat.add_sub_cancel]
    rcases Nat.lt_or_ge n (10 ^ k) with h1 | h1
    · rw [Nat.div_eq_of_lt h1] at h; omega
    · exact h1))
  have HTX := Lib.hid (fun (k : Nat) => (show (tx (padL k n)).size = k by rw [tx_size, padL_len]))
  obtain ⟨R, hR⟩ : ∃ R, padTo L (Lib.decDigits n) = R := ⟨_, rfl⟩
  rw [hR] at HEN ⊢
  clear hR
  go_enter Tryz.func79, Tryz.ntmps79
  go_wp2_with fail
  go_loop [0, 5] (fun i s => ∃ k : Nat, i = .int .i64 ((n / 10 ^ k : Nat) : Int) ∧ s = .string (tx (padL k n)) ∧ (k ≤ L ∨ 10 ^ (k - 1) ≤ n)) (fun i s => (intOf i).toNat + (L - slen s))
  case atStart => exact ⟨0, by simp, rfl, .inl (by omega)⟩
  case round =>
    obtain ⟨k, rfl, rfl, hk⟩ := hrel
    have hle := HLE.out k
    have HK := Lib.hid hk
    have hk100 : k ≤ 100 := by
      rcases hk with h | h
      · omega
      · rcases Nat.lt_or_ge (k - 1) 19 with h1 | h1
        · omega
        · have h2 := Nat.pow_le_pow_right (show 0 < 10 by decide) h1
          have h3 : (10 : Nat) ^ 19 = 10000000000000000000 := by decide
          omega
    have hsz := HTX.out k
    have HX := Lib.hid (HEN.out k)
    have HS1 := Lib.hid (HPH.out k)
    have HV1 := Lib.hid (HDV.out k)
    have HW1 := Lib.hid (HPW.out k)
    obtain ⟨m, hm⟩ : ∃ m, n / 10 ^ k = m := ⟨_, rfl⟩
    rw [hm] at hle HX HS1 HV1 HW1 ⊢
    have HDG := Lib.hid (HD.out m)
    obtain ⟨S, hS⟩ : ∃ S, tx (padL k n) = S := ⟨_, rfl⟩
    have HTC := Lib.hid (fun (c : UInt8) => (by rw [← hS]; exact tx_cons c _ : tx [c] ++ S = tx (c :: padL k n)))
    rw [hS] at hsz ⊢
    have HSZ2 := Lib.hid (HTX.out (k + 1))
    have HSS := Lib.hid hS
    clear hm hk hS
    have km : (m : Int).tmod 10 = ((m % 10 : Nat) : Int) := by rw [Int.tmod_eq_emod_of_nonneg (by omega)]; omega
    have kd : (m : Int).tdiv 10 = ((m / 10 : Nat) : Int) := by rw [Int.tdiv_eq_ediv_of_nonneg (by omega)]; omega
    have hd10 : m % 10 < 10 := Nat.mod_lt _ (by decide)
    have hmd : m / 10 ≤ m := Nat.div_le_self _ _
    have hmd2 : 0 < m → m / 10 < m := fun h => Nat.div_lt_self h (by decide)
    by_cases hc : 0 < m ∨ k < L
    · have HC := Lib.hid hc
      have hway : (decide (0 < m) = true) ∨ (decide (0 < m) = false ∧ decide (k < L) = true) := by
        rcases Nat.eq_zero_or_pos m with h | h
        · exact .inr ⟨decide_eq_false (by omega), decide_eq_true (by omega)⟩
        · exact .inl (decide_eq_true h)
      generalize m % 10 = d at *
      generalize m / 10 = v at *
      have k1 : IntKind.i64.wrap ((d : Int) + 1) = ((d + 1 : Nat) : Int) := by rw [IntWalk.i64_in _ (by omega)]; omega
      have HS2 := Lib.hid (show padL (k + 1) n = UInt8.ofNat (48 + d) :: padL k n from HS1.out)
      have hds : (⟨#[48, 49, 50, 51, 52, 53, 54, 55, 56, 57]⟩ : ByteArray).extract d (d + 1) = tx [UInt8.ofNat (48 + d)] := HDG.out
      generalize UInt8.ofNat (48 + d) = c at *
      have htc := HTC.out c
      have hsc : (tx [c]).size = 1 := tx_size _
      obtain ⟨C, hC⟩ : ∃ C, tx [c] = C := ⟨_, rfl⟩
      rw [hC] at hds htc hsc
      obtain ⟨E, hE⟩ : ∃ E, tx (c :: padL k n) = E := ⟨_, rfl⟩
      rw [hE] at htc
      have HE2 := Lib.hid (show tx (padL (k + 1) n) = E by rw [HS2.out, hE])
      have hse : E.size = k + 1 := by rw [← HE2.out]; exact HSZ2.out
      have HMD2 := Lib.hid hmd2
      clear hmd2 hc hC hE
      rcases hway with d0 | ⟨d0, d1⟩
      · have h0 : 0 < m := of_decide_eq_true d0
        go_wp2_with fail
        go_round
        case rel => exact ⟨k + 1, by rw [HV1.out], by rw [HE2.out], .inr (HW1.out h0)⟩
        case measure =>
          have := HMD2.out h0
          simp only [intOf, slen, Int.toNat_natCast]
          omega
      · have h0 : k < L := of_decide_eq_true d1
        have h1 := of_decide_eq_false d0
        go_wp2_with fail
        go_round
        case rel => exact ⟨k + 1, by rw [HV1.out], by rw [HE2.out], .inl (by omega)⟩
        case measure =>
          simp only [intOf, slen, Int.toNat_natCast]
          omega
    · have h0 : m = 0 := by omega
      subst h0
      have HF := Lib.hid (show S = tx R by rw [← HSS.out, HX.out rfl (by omega) HK.out])
      have d1 : decide (k < L) = false := decide_eq_false (by omega)
      have d2 : decide ((k : Int) < (L : Int)) = false := decide_eq_false (by omega)
      clear hc hmd2 hmd hd10 km kd
      go_wp2_with fail
      go_ret
      exact ⟨by rw [← HF.out]; rfl, rfl⟩
end Go.Proofs.YtflchbejjofppaaGreatDoor.Nu
/- Walks: the reference's trim, signed, whole. -/
namespace Go.Proofs.YtflchbejjofppaaGreatDoor.Nu
open Go Go.Proofs Go.RowKit Go.Proofs.YtflchbejjofppaaGreatDoor
def IgR (w : World) (v : Value) (z : Int) : Prop := ∃ (a : Option Addr) (n c : Nat) (l : List Nat), v = .agg #[.bool (decide (z < 0)), .slice a n c] ∧ Sc encD 1 w w.heap.size (.slice a n c) l ∧ n = l.length ∧ Dg 1000000000 l ∧ Tr l ∧ val 1000000000 l = z.natAbs
theorem IgR.later {w w' : World} {v : Value} {z : Int} (h : IgR w v z) (hb : Below w.heap.size w w') : IgR w' v z := by
  obtain ⟨a, n, c, l, h1, h2, h3⟩ := h
  exact ⟨a, n, c, l, h1, h2.later hb, h3⟩
def RetG (w : World) (z : Int) (e : Ending) (w' : World) : Prop := ∃ v, e = .returned v ∧ IgR w' v z ∧ Below w.heap.size w w'
theorem IgR.box {w : World} {v : Value} {z : Int} (h : IgR w v z) {k : Nat} {e : TypeId} {vs : List Value} (hB : Box w k e vs) (hv : ∀ y, Value.int .i64 y ∉ vs) (j : Nat) (u : Value) : IgR (w.setCell ⟨k, j, none⟩ u) v z := by
  obtain ⟨a, n, c, l, h1, ⟨a', c', e1, h2, h3, h4⟩, h5⟩ := h
  refine ⟨a, n, c, l, h1, ⟨a', c', e1, h2, h3, fun h0 => ?_⟩, h5⟩
  obtain ⟨b, off, rfl, hb, hc⟩ := h4 h0
  refine ⟨b, off, rfl, by simpa using hb, fun i hi => ?_⟩
  have hne : b ≠ k := fun e => by
    subst e
    have h1 := (hc i hi).c1
    rw [hB.cell] at h1
    exact hv _ (List.mem_of_getElem? h1)
  intro q y hq
  rw [World.cell?_setCell_other _ _ _ _ (by intro e; injection e with e1; exact absurd e1 (by omega))]
  exact hc i hi q y hq
theorem IgR.put {w : World} {v : Value} {z : Int} (h : IgR w v z) {k : Nat} {e : TypeId} {s : Bool} {a : Option Addr} {n c : Nat} (hB : Box w k e [.bool s, .slice a n c]) (s1 : Bool) (v2 : Value) : IgR ((w.setCell ⟨k, 0, none⟩ (.bool s1)).setCell ⟨k, 1, none⟩ v2) v z :=
  (h.box hB (by simp) 0 _).box (hB.set 0 (.bool s1)) (by simp) 1 _
set_option maxRecDepth 100000 in
set_option maxHeartbeats 4000000 in
theorem trim111 (w : World) (a : Option Addr) (n c : Nat) (l : List Nat) (h : Sc encD 1 w w.heap.size (.slice a n c) l) : Calls Tryz.prog 111 #[.slice a n c] w fun e w' => e = .returned (.slice a (trimN l) c) ∧ w = w' := by
  obtain ⟨a', c', e, hl1, hl2, hA⟩ := h
  injection e with e1 e2 e3
  subst e1 e2 e3
  have HA := Lib.hid hA
  obtain ⟨N, hN⟩ : ∃ N, l.length = N := ⟨_, rfl⟩
  have HN := Lib.hid hN
  rw [hN] at hl1 hl2 ⊢
  have HEN := Lib.hid (fun (k : Nat) (hk : k ≤ l.length) (ht : Tr (l.take k)) (hz : ∀ x ∈ l.drop k, x = 0) => (trimN_of hk ht hz).symm)
  obtain ⟨T, hT⟩ : ∃ T, trimN l = T := ⟨_, rfl⟩
  rw [hT] at HEN ⊢
  clear hA hN hT
  go_enter Tryz.func111, Tryz.ntmps111
  go_wp2_with fail
  go_loop [0] (fun i => ∃ k : Nat, k ≤ N ∧ i = .slice a k c ∧ ∀ x ∈ l.drop k, x = 0) (fun i => match i with | .slice _ k _ => k | _ => 0)
  case atStart => exact ⟨N, Nat.le_refl _, rfl, by rw [← HN.out, List.drop_length]; simp⟩
  case round =>
    obtain ⟨k, hk, rfl, hz⟩ := hrel
    have HZ := Lib.hid hz
    clear hz
    by_cases h0 : k = 0
    · subst h0
      have HT0 := Lib.hid (HEN.out 0 (by omega) (by simp [Tr]) HZ.out)
      go_wp2_with fail
      go_ret
      exact ⟨by rw [HT0.out]; rfl, rfl⟩
    · obtain ⟨j, rfl⟩ : ∃ j, k = j + 1 := ⟨k - 1, by omega⟩
      have hj : j < l.length := by rw [HN.out]; omega
      obtain ⟨b, off, rfl, hbb, hcells⟩ := HA.out (by omega)
      have c0 := (hcells j hj).c1
      rw [Nat.mul_one] at c0
      have HD := Lib.hid (List.drop_eq_getElem_cons hj)
      have HT := Lib.hid (show ∀ hx : l[j] ≠ 0, Tr (l.take (j + 1)) from fun hx => Tr.of_last (fun hn => by
        rw [List.getElem_take]
        have e : (l.take (j + 1)).length - 1 = j := by rw [List.length_take]; omega
        have e2 : l[(l.take (j + 1)).length - 1]'(by omega) = l[j] := by congr 1
        rw [e2]; exact hx))
      clear hcells
      generalize l[j] = x at *
      have k1 : IntKind.i64.wrap (((j + 1 : Nat) : Int) - 1) = (j : Int) := by rw [IntWalk.i64_in _ (by omega)]; omega
      have k2 : decide ((0 : Int) < ((j + 1 : Nat) : Int)) = true := decide_eq_true (by omega)
      have k3 : decide (((j + 1 : Nat) : Int) ≤ (j : Int)) = false := decide_eq_false (by omega)
      by_cases hx : x = 0
      · subst hx
        have HZ2 := Lib.hid (show ∀ x ∈ l.drop j, x = 0 by rw [HD.out]; intro x hx; rcases List.mem_cons.1 hx with h | h; exact h; exact HZ.out x h)
        clear h0
        go_wp2_with fail
        go_round
        case rel => exact ⟨j, by omega, rfl, HZ2.out⟩
        case measure => simp
      · have k4 : ((x : Int) == 0) = false := beq_eq_false_iff_ne.2 (by omega)
        have HT0 := Lib.hid (HEN.out (j + 1) (by rw [HN.out]; exact hk) (HT.out hx) HZ.out)
        clear hx h0
        go_wp2_with fail
        go_ret
        exact ⟨by rw [HT0.out]; rfl, rfl⟩
end Go.Proofs.YtflchbejjofppaaGreatDoor.Nu
/- Walks: the reference's signed, whole. -/
namespace Go.Proofs.YtflchbejjofppaaGreatDoor.Nu
open Go Go.Proofs Go.RowKit Go.Proofs.YtflchbejjofppaaGreatDoor
theorem signed_lt (neg : Bool) (m : Nat) : decide (signed neg m < 0) = (neg && decide (0 < m)) := by
  cases neg
  · simp [signed]
  · simp only [signed, if_true, Bool.true_and]
    by_cases h : 0 < m
    · rw [decide_eq_true h, decide_eq_true (by omega)]
    · rw [decide_eq_false h, decide_eq_false (by omega)]
theorem signed_abs (neg : Bool) (m : Nat) : (signed neg m).natAbs = m := by
  cases neg <;> simp [signed]
theorem val_trimN (l : List Nat) : val 1000000000 (l.take (trimN l)) = val 1000000000 l := val_take_zeros (trimN_spec l).1 (trimN_spec l).2.2
theorem trimN_pos {l : List Nat} (hl : 0 < val 1000000000 l) : 0 < trimN l := by
  rcases Nat.eq_zero_or_pos (trimN l) with h | h
  · have := val_trimN l
    rw [h] at this
    simp [val] at this
    omega
  · exact h
theorem trimN_zero {l : List Nat} (hl : val 1000000000 l = 0) : trimN l = 0 := by
  have h1 := val_trimN l
  have h2 := Tr.zero (B := 1000000000) (by decide) (trimN_spec l).2.1 (by rw [h1]; exact hl)
  have := congrArg List.length h2
  rw [List.length_take, List.length_nil] at this
  have := (trimN_spec l).1
  omega
set_option maxRecDepth 100000 in
set_option maxHeartbeats 4000000 in
theorem signed80 (w : World) (neg : Bool) (a : Option Addr) (n c : Nat) (l : List Nat) (h : Sc encD 1 w w.heap.size (.slice a n c) l) (hd : Dg 1000000000 l) : Calls Tryz.prog 80 #[.bool neg, .slice a n c] w (RetG w (signed neg (val 1000000000 l))) := by
  have HTR := Lib.hid (fun (w1 : World) (hb : Below w.heap.size w w1) => trim111 w1 a n c l (h.later hb))
  have hsp := trimN_spec l
  have HI := Lib.hid (fun (w1 : World) (hb : Below w.heap.size w w1) => (⟨a, trimN l, c, l.take (trimN l), by rw [signed_lt], (h.later hb).take _ hsp.1, by rw [List.length_take]; omega, hd.take _, hsp.2.1, by rw [val_trimN, signed_abs]⟩ : IgR w1 (.agg #[.bool (neg && decide (0 < val 1000000000 l)), .slice a (trimN l) c]) (signed neg (val 1000000000 l))))
  have hq : (neg && decide (0 < val 1000000000 l)) = (neg && decide (0 < trimN l)) := by
    rcases Nat.eq_zero_or_pos (val 1000000000 l) with h0 | h0
    · rw [h0, trimN_zero h0]
    · rw [decide_eq_true h0, decide_eq_true (trimN_pos h0)]
  rw [hq] at HI
  obtain ⟨z, hz⟩ : ∃ z, signed neg (val 1000000000 l) = z := ⟨_, rfl⟩
  rw [hz] at HI ⊢
  obtain ⟨T, hT⟩ : ∃ T, trimN l = T := ⟨_, rfl⟩
  rw [hT] at HI HTR
  clear hz hT hsp hd h hq
  have HB := Lib.hid ((Below.refl w.heap.size w).alloc (Nat.le_refl _) (.cells #[.bool false, .slice none 0 0] 99))
  have HZ := Lib.hid (Box.new w #[.bool false, .slice none 0 0] 99)
  obtain ⟨z0, z1, zf, zz⟩ := HZ.out.v2
  obtain ⟨p, hp⟩ : ∃ p, decide (0 < T) = p := ⟨_, rfl⟩
  have hp2 : decide ((0 : Int) < (T : Int)) = p := by rw [← hp]; by_cases h : 0 < T <;> simp [h]
  rw [hp] at HI
  cases neg with
  | true =>
    simp only [Bool.true_and] at HI
    go_enter Tryz.func80, Tryz.ntmps80
    go_wp2_with fail
    refine (HTR.out _ HB.out).mono ?_
    rintro e4 w4 ⟨rfl, rfl⟩
    go_wp2_with fail
    refine bodyPost_ret (v := .agg #[.bool p, .slice a T c]) (by simp [results, Tryz.results80, go_sem, *]) rfl ?_
    refine ⟨_, rfl, ?_, ?_⟩
    · exact HI.out _ ((Below.refl w.heap.size w).alloc (Nat.le_refl _) _)
    · exact (Below.refl w.heap.size w).alloc (Nat.le_refl _) _
  | false =>
    simp only [Bool.false_and] at HI
    go_enter Tryz.func80, Tryz.ntmps80
    go_wp2_with fail
    refine (HTR.out _ HB.out).mono ?_
    rintro e4 w4 ⟨rfl, rfl⟩
    go_wp2_with fail
    refine bodyPost_ret (v := .agg #[.bool false, .slice a T c]) (by simp [results, Tryz.results80, go_sem, *]) rfl ?_
    refine ⟨_, rfl, ?_, ?_⟩
    · exact HI.out _ ((Below.refl w.heap.size w).alloc (Nat.le_refl _) _)
    · exact (Below.refl w.heap.size w).alloc (Nat.le_refl _) _
theorem infoD : (Tryz.prog.info? 3).map (fun i => (i.zero, i.size, i.bytes)) = some (some (.int .i64 0), 1, 8) := by kernel_rfl
set_option maxRecDepth 100000 in
set_option maxHeartbeats 4000000 in
theorem whole49 (w : World) (z : Int) (h1 : -9223372036854775808 ≤ z) (h2 : z ≤ 9223372036854775807) : Calls Tryz.prog 49 #[.int .i64 z] w (RetG w z) := by
  obtain ⟨p, hp⟩ : ∃ p, decide (z < 0) = p := ⟨_, rfl⟩
  have HZS := Lib.hid (show signed p z.natAbs = z by rw [← hp]; unfold signed; by_cases h : z < 0 <;> simp [h] <;> omega)
  have HSG := Lib.hid (fun (w1 : World) (v : Value) (l : List Nat) (h : Sc encD 1 w1 w1.heap.size v l) (hd : Dg 1000000000 l) => (by
    obtain ⟨a, c, rfl, _⟩ := h.shape
    exact ⟨a, l.length, c, rfl, signed80 w1 p a _ c l h hd⟩ : ∃ a n c, v = .slice a n c ∧ Calls Tryz.prog 80 #[.bool p, .slice a n c] w1 (RetG w1 (signed p (val 1000000000 l)))))
  have HB := Lib.hid ((Below.refl w.heap.size w).alloc (Nat.le_refl _) (.cells #[.bool false, .slice none 0 0] 99))
  have HZ := Lib.hid (Box.new w #[.bool false, .slice none 0 0] 99)
  obtain ⟨z0, z1, zf, zz⟩ := HZ.out.v2
  have HP := Lib.hid hp
  go_enter Tryz.func49, Tryz.ntmps49
  go_wp2_with fail
  go_loopw [0, 3] (fun i s wr => ∃ (t : Int) (v : Value) (l : List Nat), i = .int .i64 t ∧ v = s ∧ Below w.heap.size w wr ∧ Box wr w.heap.size 99 [.bool false, .slice none 0 0] ∧ w.heap.size + 1 ≤ wr.heap.size ∧ Own encD 1 3 wr (w.heap.size + 1) v l ∧ Dg 1000000000 l ∧ l.length ≤ 3 ∧ (t < 0 → z < 0) ∧ (0 < t → 0 < z) ∧ val 1000000000 l + 1000000000 ^ l.length * t.natAbs = z.natAbs) (fun i _ _ => (intOf i).natAbs)
  case atStart => exact ⟨z, _, [], rfl, rfl, HB.out, HZ.out, by simp, Own.nil _ _ _ _ _, Dg.nil _, by simp, id, id, by simp [val]⟩
  case round =>
    obtain ⟨t, v, l, rfl, rfl, hbe, hbz, hsz, hown, hdg, hl3, ht1, ht2, hv⟩ := hrel
    clear HB HZ z0 z1 zf zz
    have HB := Lib.hid hbe
    have HZ := Lib.hid hbz
    have HO := Lib.hid hown
    have HDG := Lib.hid hdg
    clear hbe hbz hown hdg
    by_cases h0 : t = 0
    · subst h0
      have hval : val 1000000000 l = z.natAbs := by simpa using hv
      have hsc := Sc.of_own encD_len (by omega) HO.out
      obtain ⟨a, n, c, e, hcall⟩ := HSG.out wr v l hsc HDG.out
      subst e
      have HCL := Lib.hid (by rw [hval, HZS.out] at hcall; exact hcall : Calls Tryz.prog 80 #[.bool p, .slice a n c] wr (RetG wr z))
      clear hcall hsc hv hval HO HSG ht1 ht2
      go_wp2_with fail
      refine HCL.out.mono ?_
      rintro e4 w4 ⟨v4, rfl, hi4, hb⟩
      have HI4 := Lib.hid hi4
      obtain ⟨a4, n4, c4, l4, rfl, _⟩ := hi4
      replace HZ := Lib.hid (HZ.out.later hb)
      replace HB := Lib.hid (HB.out.trans (hb.mono HB.out.size))
      clear hb
      obtain ⟨z0, z1, zf, zz⟩ := HZ.out.v2
      go_wp2_with fail
      refine bodyPost_ret (v := .agg #[.bool (decide (z < 0)), .slice a4 n4 c4]) (by simp [results, Tryz.results49, go_sem, *]) rfl ?_
      refine ⟨_, rfl, IgR.put HI4.out HZ.out _ _, ?_⟩
      repeat (first | with_reducible exact HB.out | with_reducible exact Below.refl _ _ | refine Below.setCell ?_ (by first | (dsimp only; omega) | (simp; done) | (simp; omega)) _ | refine Below.alloc ?_ (by first | omega | (simp; done) | (simp; omega)) _ | refine Below.drew ?_)
    · have hl2 : l.length ≤ 2 := by
        rcases Nat.lt_or_ge l.length 3 with h | h
        · omega
        · have e3 : l.length = 3 := by omega
          rw [e3] at hv
          have : (1000000000 : Nat) ^ 3 = 1000000000000000000000000000 := by decide
          rw [this] at hv
          have : 0 < t.natAbs := by omega
          omega
      obtain ⟨d, hd⟩ : ∃ d, t.natAbs % 1000000000 = d := ⟨_, rfl⟩
      obtain ⟨m, hm⟩ : ∃ m, t.natAbs / 1000000000 = m := ⟨_, rfl⟩
      have hd9 : d < 1000000000 := by omega
      have htb : -9223372036854775808 ≤ t ∧ t ≤ 9223372036854775807 := by
        have : t.natAbs ≤ 1000000000 ^ l.length * t.natAbs := Nat.le_mul_of_pos_left _ (Nat.pow_pos (by decide))
        rcases Int.lt_trichotomy t 0 with h | h | h
        · have := ht1 h; omega
        · omega
        · have := ht2 h; omega
      have HNV := Lib.hid (show val 1000000000 (l ++ [d]) + 1000000000 ^ (l ++ [d]).length * m = z.natAbs by
        rw [val_app, val_one, List.length_append, List.length_singleton, Nat.pow_succ, Nat.add_assoc, Nat.mul_assoc, ← Nat.mul_add, show d + 1000000000 * m = t.natAbs by omega]
        exact hv)
      have HDN := Lib.hid (HDG.out.app (Dg.one hd9))
      have HT1 := Lib.hid ht1
      have HT2 := Lib.hid ht2
      have HBA := Lib.hid (HB.out.alloc HB.out.size (.cells #[.int .i64 (d : Int)] 3))
      have HOA := Lib.hid (HO.out.alloc (.cells #[.int .i64 (d : Int)] 3))
      have HZA := Lib.hid (HZ.out.alloc (.cells #[.int .i64 (d : Int)] 3))
      have HSZ := Lib.hid (show w.heap.size + 1 ≤ (wr.alloc (.cells #[.int .i64 (d : Int)] 3)).heap.size by simp; omega)
      have HLE := Lib.hid (show l.length ≤ 1000000 by omega)
      have HRH := Lib.hid (Box.new wr #[.int .i64 (d : Int)] 3)
      have HL2 := Lib.hid hl2
      have hway : ∃ r q : Int, t.tmod 1000000000 = r ∧ t.tdiv 1000000000 = q ∧ q.natAbs = m ∧ (q < 0 → z < 0) ∧ (0 < q → 0 < z) ∧ ((decide (r < 0) = true ∧ IntKind.i64.wrap (0 - r) = (d : Int)) ∨ (decide (r < 0) = false ∧ r = (d : Int))) := by
        refine ⟨_, _, rfl, rfl, ?_⟩
        rcases Int.lt_trichotomy t 0 with h | h | h
        · have e : t = -(t.natAbs : Int) := by omega
          have e1 : t.tmod 1000000000 = -(d : Int) := by rw [e, Int.neg_tmod, Int.tmod_eq_emod_of_nonneg (by omega)]; omega
          have e2 : t.tdiv 1000000000 = -(m : Int) := by rw [e, Int.neg_tdiv, Int.tdiv_eq_ediv_of_nonneg (by omega)]; omega
          rw [e1, e2]
          refine ⟨by omega, fun _ => ht1 h, fun h => by omega, ?_⟩
          by_cases hd0 : 0 < d
          · exact .inl ⟨decide_eq_true (by omega), by rw [IntWalk.i64_in _ (by omega)]; omega⟩
          · exact .inr ⟨decide_eq_false (by omega), by omega⟩
        · exact absurd h h0
        · have e1 : t.tmod 1000000000 = (d : Int) := by rw [Int.tmod_eq_emod_of_nonneg (by omega)]; omega
          have e2 : t.tdiv 1000000000 = (m : Int) := by rw [Int.tdiv_eq_ediv_of_nonneg (by omega)]; omega
          rw [e1, e2]
          exact ⟨by omega, fun h => by omega, fun _ => ht2 h, .inr ⟨decide_eq_false (by omega), rfl⟩⟩
      obtain ⟨r, q, kr, kq, hqm, hq1, hq2, hway⟩ := hway
      have k0 : ((t : Int) == 0) = false := beq_eq_false_iff_ne.2 h0
      have k0' : ((t : Int) != 0) = true := by rw [bne, k0]; rfl
      have HQ := Lib.hid (show q.natAbs < t.natAbs by omega)
      have HQM := Lib.hid hqm
      have HQ1 := Lib.hid hq1
      have HQ2 := Lib.hid hq2
      have kqw : IntKind.i64.wrap q = q := IntWalk.i64_in _ (by omega)
      clear hv hl3 HB HO HZ HDG HSG HZS HP ht1 ht2 hqm hq1 hq2 h0
      rcases hway with ⟨d1, k1⟩ | ⟨d1, k1⟩
      · have k2 : IntKind.i64.wrap (-r) = (d : Int) := by rw [show -r = 0 - r by omega]; exact k1
        go_wp2_with (at_builtin; (refine wpList_pushB encD 1 8 26 3 _ Tryz.underlying26 infoD rfl (by decide) (by decide) encD_len encD_one l d (w.heap.size + 1) _ _ _ _ HRH.out rfl _ HOA.out HSZ.out HLE.out rfl _ _ rfl rfl rfl ?_); intro v' w' hown' hg')
        go_roundw
        case rel => exact ⟨q, v', _, rfl, rfl, HBA.out.grown hg' (by have := HBA.out.size; omega) (fun k hk => by have := HOA.out.lt' k hk; omega), HZA.out.kept hg' (fun e => by have := HOA.out.lt' _ e.symm; omega), Nat.le_trans HSZ.out hg'.size, hown', HDN.out, by simp; have := HL2.out; omega, HQ1.out, HQ2.out, by rw [HQM.out]; exact HNV.out⟩
        case measure => exact HQ.out
      · subst k1
        go_wp2_with (at_builtin; (refine wpList_pushB encD 1 8 26 3 _ Tryz.underlying26 infoD rfl (by decide) (by decide) encD_len encD_one l d (w.heap.size + 1) _ _ _ _ HRH.out rfl _ HOA.out HSZ.out HLE.out rfl _ _ rfl rfl rfl ?_); intro v' w' hown' hg')
        go_roundw
        case rel => exact ⟨q, v', _, rfl, rfl, HBA.out.grown hg' (by have := HBA.out.size; omega) (fun k hk => by have := HOA.out.lt' k hk; omega), HZA.out.kept hg' (fun e => by have := HOA.out.lt' _ e.symm; omega), Nat.le_trans HSZ.out hg'.size, hown', HDN.out, by simp; have := HL2.out; omega, HQ1.out, HQ2.out, by rw [HQM.out]; exact HNV.out⟩
        case measure => exact HQ.out
end Go.Proofs.YtflchbejjofppaaGreatDoor.Nu
/- Walks: the reference's text, FromInt. -/
namespace Go.Proofs.YtflchbejjofppaaGreatDoor.Nu
open Go Go.Proofs Go.RowKit Go.Proofs.YtflchbejjofppaaGreatDoor
theorem dec_val_step {l : List Nat} (hd : Dg 1000000000 l) (ht : Tr l) (k : Nat) (hk : k + 1 < l.length) : Lib.decDigits (val 1000000000 (l.drop k)) = Lib.decDigits (val 1000000000 (l.drop (k + 1))) ++ padTo 9 (Lib.decDigits (l[k]'(by omega))) := by
  have hx := hd.get k (by omega)
  have hpos : 0 < val 1000000000 (l.drop (k + 1)) := by
    have h1 : Tr (l.drop (k + 1)) := by
      unfold Tr at ht ⊢
      rw [List.getLast?_drop, if_neg (by omega)]; exact ht
    rcases Nat.eq_zero_or_pos (val 1000000000 (l.drop (k + 1))) with h | h
    · have h2 := Tr.zero (B := 1000000000) (by decide) h1 h
      have := congrArg List.length h2
      rw [List.length_drop, List.length_nil] at this; omega
    · exact h
  rw [val_drop _ _ _ (by omega), show l[k] + 1000000000 * val 1000000000 (l.drop (k + 1)) = val 1000000000 (l.drop (k + 1)) * 10 ^ 9 + l[k] by rw [show (10 : Nat) ^ 9 = 1000000000 by decide]; omega, dec_split 9 _ _ hpos (by rw [show (10 : Nat) ^ 9 = 1000000000 by decide]; exact hx), padTo_pad (by rw [show (10 : Nat) ^ 9 = 1000000000 by decide]; exact hx) (by decide)]
theorem toNat_abs {z : Int} (h : 0 ≤ z) : z.toNat = z.natAbs := by omega
theorem dec_len_val {l : List Nat} (hd : Dg 1000000000 l) (hl : l.length ≤ 1000000) : (Lib.decDigits (val 1000000000 l)).length ≤ 9 * l.length + 1 := by
  have h := val_lt hd
  rw [show (1000000000 : Nat) = 10 ^ 9 by decide, ← Nat.pow_mul] at h
  rcases Nat.eq_zero_or_pos l.length with h0 | h0
  · rw [h0] at h
    have := (dec_len_le (k := 1) (by decide)).2 (Nat.lt_of_lt_of_le h (by decide))
    rw [show (1000000000 : Nat) = 10 ^ 9 by decide]
    omega
  · have := (dec_len_le (by omega)).2 h
    rw [show (1000000000 : Nat) = 10 ^ 9 by decide]
    omega
structure Nd (k : Nat) (z : Int) : Prop where
  lt : z.natAbs < 1000000000 ^ k
set_option maxRecDepth 100000 in
set_option maxHeartbeats 4000000 in
theorem text48 (w : World) (v : Value) (z : Int) (h : IgR w v z) (K : Nat) (hz : Nd K z) (hK : K ≤ 1000000) : Calls Tryz.prog 48 #[v] w (Ret (.string (txz z)) w) := by
  obtain ⟨a, n, c, l, rfl, ⟨a', c', e, hl1, hl2, hA⟩, hnl, hd, ht, hv⟩ := h
  injection e with e1 e2 e3
  subst e1 e3
  clear e2
  have hlm : l.length ≤ 1000000 := Nat.le_trans (len_le (B := 1000000000) (by decide) ht (by rw [hv]; exact hz.lt)) hK
  subst hnl
  obtain ⟨p, hp⟩ : ∃ p, decide (z < 0) = p := ⟨_, rfl⟩
  have HST := Lib.hid (fun (k : Nat) (hk : k + 1 < l.length) => dec_val_step hd ht k hk)
  have HLA := Lib.hid (fun (hk : 0 < l.length) => (show val 1000000000 (l.drop (l.length - 1)) = l[l.length - 1]'(by omega) by
    rw [val_drop _ _ _ (by omega), show l.length - 1 + 1 = l.length by omega, List.drop_length]; simp [val]))
  have HSZ := Lib.hid (fun (k : Nat) => (by
    have h := dec_len_val (l := l.drop k) (hd.drop k) (by rw [List.length_drop]; omega)
    rw [List.length_drop] at h
    rw [tx_size]; omega : (tx (Lib.decDigits (val 1000000000 (l.drop k)))).size ≤ 9000001))
  have HDG := Lib.hid (fun (k : Nat) (hk : k < l.length) => hd.get k hk)
  have HFP := Lib.hid (show p = true → tx (45 :: Lib.decDigits (val 1000000000 l)) = txz z from fun e => by
    have := of_decide_eq_true (hp.trans e); unfold txz; rw [itoa_ng this, hv])
  have HFN := Lib.hid (show p = false → tx (Lib.decDigits (val 1000000000 l)) = txz z from fun e => by
    have h0 := of_decide_eq_false (hp.trans e); unfold txz; rw [itoa_nn (Int.not_lt.1 h0), toNat_abs (Int.not_lt.1 h0), hv])
  have HP0 := Lib.hid (show p = true → l ≠ [] from fun e h => by
    have := of_decide_eq_true (hp.trans e); rw [h] at hv; simp [val] at hv; omega)
  have HD := Lib.hid (fun (w1 : World) (n L : Nat) (hn : n ≤ 9223372036854775807) (hL : 0 < L) (hL2 : L ≤ 100) => decimal79 w1 n L hn hL hL2)
  have HA := Lib.hid hA
  rw [hp]
  clear hv hz hd ht hA hp
  have HB := Lib.hid ((Below.refl w.heap.size w).alloc (Nat.le_refl _) (.cells #[.bool p, .slice a l.length c] 99))
  have HX := Lib.hid (Box.new w #[.bool p, .slice a l.length c] 99)
  obtain ⟨x0, x1, xf, xz⟩ := HX.out.v2
  obtain ⟨N, hN⟩ : ∃ N, l.length = N := ⟨_, rfl⟩
  have HN := Lib.hid hN
  rw [hN] at hl1 hl2 hlm HB HX x1 ⊢
  clear hN
  rcases Nat.eq_zero_or_pos N with h0 | h0
  · subst h0
    have e : l = [] := List.eq_nil_of_length_eq_zero HN.out
    have hz0 : txz z = ⟨#[48]⟩ := by
      cases p with
      | true =>
        exact absurd e (HP0.out rfl)
      | false => rw [← HFN.out rfl, e]; show tx (Lib.decDigits 0) = _; rw [dec_zero]; rfl
    rw [hz0]
    go_enter Tryz.func48, Tryz.ntmps48
    go_wp2_with fail
    go_ret
    exact ⟨rfl, HB.out⟩
  · obtain ⟨b, off, rfl, hbb, hcells⟩ := HA.out (by rw [HN.out]; exact h0)
    have HC := Lib.hid (fun (w1 : World) (hb : Below w.heap.size w w1) (k : Nat) (hk : k < l.length) => ((hcells k hk).below hb hbb).c1)
    have hbz : b < w.heap.size + 1 := by omega
    have hla := HLA.out (by rw [HN.out]; exact h0)
    obtain ⟨M, hM⟩ : ∃ M, N = M + 1 := ⟨N - 1, by omega⟩
    subst hM
    have c0 := HC.out _ HB.out (l.length - 1) (by rw [HN.out]; omega)
    have hx := HDG.out (l.length - 1) (by rw [HN.out]; omega)
    obtain ⟨y, hy⟩ : ∃ y, (l[l.length - 1]'(by rw [HN.out]; omega)) = y := ⟨_, rfl⟩
    rw [hy] at c0 hx hla
    have HD0 := Lib.hid (fun (w1 : World) => (by
      have h := HD.out w1 y 1 (by omega) (by decide) (by decide)
      rw [padTo_one] at h
      rw [hla]
      exact h : Calls Tryz.prog 79 #[.int .i64 (y : Int), .int .i64 1] w1 fun e w' => e = .returned (.string (tx (Lib.decDigits (val 1000000000 (l.drop (l.length - 1)))))) ∧ w1 = w'))
    clear hy hx
    have HL1 := Lib.hid (show l.length - 1 = M by rw [HN.out]; omega)
    rw [HL1.out] at HD0 c0
    rw [Nat.mul_one] at c0
    clear hla hcells
    have k0 : ((M + 1 : Nat) == 0) = false := beq_eq_false_iff_ne.2 (by omega)
    have k1 : IntKind.i64.wrap (((M + 1 : Nat) : Int) - 1) = (M : Int) := by rw [IntWalk.i64_in _ (by omega)]; omega
    have k2 : IntKind.i64.wrap (((M + 1 : Nat) : Int) - 2) = (M : Int) - 1 := by rw [IntWalk.i64_in _ (by omega)]; omega
    obtain ⟨t, ht⟩ : ∃ t : Int, (M : Int) - 1 = t := ⟨_, rfl⟩
    rw [ht] at k2
    have HT := Lib.hid ht
    clear ht
    go_enter Tryz.func48, Tryz.ntmps48
    go_wp2_with fail
    refine (HD0.out _).mono ?_
    rintro e4 w4 ⟨rfl, rfl⟩
    go_wp2_with fail
    clear HD0 HLA c0
    go_loop [3, 4] (fun s i => ∃ (k : Nat) (t : Int), k ≤ M ∧ t + 1 = (k : Int) ∧ i = .int .i64 t ∧ s = .string (tx (Lib.decDigits (val 1000000000 (l.drop k))))) (fun _ i => (intOf i + 1).toNat)
    case atStart => exact ⟨M, (M : Int) + 1 - 2, Nat.le_refl _, by omega, rfl, rfl⟩
    case round =>
      obtain ⟨k, t, hk, htk, rfl, rfl⟩ := hrel
      rcases Nat.eq_zero_or_pos k with hk0 | hk0
      · subst hk0
        have d0 : decide (0 ≤ t) = false := decide_eq_false (by omega)
        have hd0 : l.drop 0 = l := rfl
        rw [hd0]
        have HS := Lib.hid (HSZ.out 0)
        rw [hd0] at HS
        have hs0 := HS.out
        obtain ⟨S, hS⟩ : ∃ S, tx (Lib.decDigits (val 1000000000 l)) = S := ⟨_, rfl⟩
        have HC5 := Lib.hid (show ⟨#[45]⟩ ++ S = tx (45 :: Lib.decDigits (val 1000000000 l)) by rw [← hS]; exact tx_app [45] _)
        have HSS := Lib.hid hS
        rw [hS] at hs0 ⊢
        have hs1 : (⟨#[45]⟩ : ByteArray).size = 1 := rfl
        clear hS hd0 htk
        cases p with
        | true =>
          have hc5 : ⟨#[45]⟩ ++ S = txz z := by rw [HC5.out, HFP.out rfl]
          generalize txz z = Z at *
          go_wp2_with fail
          go_ret
          exact ⟨rfl, HB.out⟩
        | false =>
          have hc5 : S = txz z := by rw [← HSS.out, HFN.out rfl]
          have HC6 := Lib.hid hc5
          clear hc5
          go_wp2_with fail
          go_ret
          exact ⟨by rw [← HC6.out]; rfl, HB.out⟩
      · obtain ⟨j, rfl⟩ : ∃ j, k = j + 1 := ⟨k - 1, by omega⟩
        obtain rfl : t = (j : Int) := by omega
        have hjl : j < l.length := by rw [HN.out]; omega
        have c0 := HC.out _ HB.out j hjl
        rw [Nat.mul_one] at c0
        have hx := HDG.out j hjl
        have HSS := Lib.hid (HST.out j (by rw [HN.out]; omega))
        obtain ⟨y, hy⟩ : ∃ y, l[j] = y := ⟨_, rfl⟩
        rw [hy] at c0 hx HSS
        have HDJ := Lib.hid (HD.out (w.alloc (.cells #[.bool p, .slice (some ⟨b, off, none⟩) (M + 1) c] 99)) y 9 (by omega) (by decide) (by decide))
        have hs0 := HSZ.out (j + 1)
        have hs1 : (tx (padTo 9 (Lib.decDigits y))).size ≤ 100 := by
          rw [tx_size]
          unfold padTo
          rw [List.length_append, List.length_replicate]
          have := (dec_len_le (n := y) (k := 9) (by decide)).2 (by rw [show (10 : Nat) ^ 9 = 1000000000 by decide]; exact hx)
          omega
        have HTA := Lib.hid (tx_app (Lib.decDigits (val 1000000000 (l.drop (j + 1)))) (padTo 9 (Lib.decDigits y)))
        rw [← HSS.out] at HTA
        have hta := HTA.out
        obtain ⟨S, hS⟩ : ∃ S, tx (Lib.decDigits (val 1000000000 (l.drop (j + 1)))) = S := ⟨_, rfl⟩
        obtain ⟨E, hE⟩ : ∃ E, tx (padTo 9 (Lib.decDigits y)) = E := ⟨_, rfl⟩
        rw [hS] at hs0 hta ⊢
        rw [hE] at hs1 hta HDJ
        obtain ⟨G, hG⟩ : ∃ G, tx (Lib.decDigits (val 1000000000 (l.drop j))) = G := ⟨_, rfl⟩
        rw [hG] at hta
        have HGG := Lib.hid hG
        have k3 : decide ((0 : Int) ≤ (j : Int)) = true := decide_eq_true (by omega)
        have k4 : IntKind.i64.wrap ((j : Int) - 1) = (j : Int) - 1 := IntWalk.i64_in _ (by omega)
        obtain ⟨t, ht⟩ : ∃ t : Int, (j : Int) - 1 = t := ⟨_, rfl⟩
        rw [ht] at k4
        have HT2 := Lib.hid ht
        have HDJ2 := Lib.hid (show Calls Tryz.prog 79 #[.int .i64 (y : Int), .int .i64 9] _ _ from HDJ.out)
        clear hS hE hG hy hx HTA ht HDJ htk k1 k2 k0
        go_wp2_with fail
        refine HDJ2.out.mono ?_
        rintro e5 w5 ⟨rfl, rfl⟩
        go_wp2_with fail
        go_round
        case rel => exact ⟨j, (j : Int) - 1, by omega, by omega, rfl, by rw [HGG.out]⟩
        case measure => simp only [intOf]; omega
theorem nd_small {z : Int} (h1 : -9223372036854775808 ≤ z) (h2 : z ≤ 9223372036854775807) : Nd 3 z := ⟨by rw [show (1000000000 : Nat) ^ 3 = 1000000000000000000000000000 by decide]; omega⟩
set_option maxRecDepth 100000 in
set_option maxHeartbeats 1000000 in
theorem fromInt18 (w : World) (z : Int) (h1 : -9223372036854775808 ≤ z) (h2 : z ≤ 9223372036854775807) : Calls Tryz.prog 18 #[.int .i64 z] w (Ret (.string (txz z)) w) := by
  have HW := Lib.hid (whole49 w z h1 h2)
  have HT := Lib.hid (fun (w1 : World) (v : Value) (h : IgR w1 v z) => text48 w1 v z h 3 (nd_small h1 h2) (by decide))
  generalize txz z = X at *
  clear h1 h2
  go_enter Tryz.func18, Tryz.ntmps18
  go_wp2_with fail
  refine HW.out.mono ?_
  rintro e4 w4 ⟨v4, rfl, hi4, hb⟩
  have HT4 := Lib.hid (HT.out w4 v4 hi4)
  have HB := Lib.hid hb
  clear hi4 hb
  go_wp2_with fail
  refine HT4.out.mono ?_
  rintro e5 w5 ⟨rfl, hb⟩
  replace HB := Lib.hid (HB.out.trans (hb.mono HB.out.size))
  clear hb
  go_wp2_with fail
  go_ret
  exact ⟨rfl, HB.out⟩
end Go.Proofs.YtflchbejjofppaaGreatDoor.Nu
/- Walks: routeScales, routeSpan. -/
namespace Go.Proofs.YtflchbejjofppaaGreatDoor.Nu
open Go Go.Proofs Go.RowKit Go.Proofs.YtflchbejjofppaaGreatDoor
theorem net_r : netF ⟨30, 31⟩ ⟨10, 12⟩ = ⟨18, 21⟩ ∧ netB ⟨30, 31⟩ ⟨10, 12⟩ = 0 := by decide +kernel
theorem net_r36 (w : World) : Calls Tryz.prog 25 #[.agg #[.int .i64 30, .int .i64 31], .agg #[.int .i64 10, .int .i64 12]] w (Ret (.tuple #[.agg #[.int .i64 18, .int .i64 21], .int .i64 0]) w) := by
  have h := net36 ⟨30, 31⟩ ⟨10, 12⟩ w
  rw [net_r.1, net_r.2] at h
  exact h
theorem meet_r : meetV [(1, 5), (2, 9)] = .tuple #[.agg #[.string ⟨#[50]⟩, .string ⟨#[53]⟩], .int .i64 0] := by
  have h1 : txz 2 = ⟨#[50]⟩ := by unfold txz; rw [itoa_nn (by omega)]; show tx (Lib.decDigits 2) = _; rw [dec_small (by omega)]; rfl
  have h2 : txz 5 = ⟨#[53]⟩ := by unfold txz; rw [itoa_nn (by omega)]; show tx (Lib.decDigits 5) = _; rw [dec_small (by omega)]; rfl
  unfold meetV
  rw [if_pos (by decide)]
  show Value.tuple #[.agg #[.string (txz 2), .string (txz 5)], .int .i64 0] = _
  rw [h1, h2]
theorem sp_r (w : World) : Sl encP 2 (w.alloc (.cells #[.string ⟨#[49]⟩, .string ⟨#[53]⟩, .string ⟨#[50]⟩, .string ⟨#[57]⟩] 39)) (w.alloc (.cells #[.string ⟨#[49]⟩, .string ⟨#[53]⟩, .string ⟨#[50]⟩, .string ⟨#[57]⟩] 39)).heap.size (.slice (some ⟨w.heap.size, 0, none⟩) 2 2) [(1, 5), (2, 9)] := by
  have e : ∀ n : Nat, n < 10 → txz (n : Int) = tx [UInt8.ofNat (48 + n)] := fun n hn => by unfold txz; rw [itoa_nn (by omega)]; show tx (Lib.decDigits n) = _; rw [dec_small hn]
  refine Sl.lit encP_len [(1, 5), (2, 9)] w _ 39 2 rfl ?_ (by simp)
  simp only [List.flatMap_cons, List.flatMap_nil, encP]
  rw [show txz 1 = ⟨#[49]⟩ from e 1 (by omega), show txz 5 = ⟨#[53]⟩ from e 5 (by omega), show txz 2 = ⟨#[50]⟩ from e 2 (by omega), show txz 9 = ⟨#[57]⟩ from e 9 (by omega)]
  rfl
set_option maxRecDepth 100000 in
set_option maxHeartbeats 4000000 in
theorem routeScales7 (w : World) (hw : TbR w) : Calls Tryz.prog 7 #[] w (Ret (.bool true) w) := by
  have HM := Lib.hid (fun (w1 : World) (hb : Below w.heap.size w w1) (v : Value) (h : Sl encP 2 w1 w1.heap.size v [(1, 5), (2, 9)]) => (by
    have h := meet23 w1 (hw.later hb) v [(1, 5), (2, 9)] h (by simp) (by simp) (by
      intro p hp; simp at hp; rcases hp with rfl | rfl <;> exact ⟨by decide, by decide, by decide⟩)
    rwa [meet_r] at h : Calls Tryz.prog 23 #[v] w1 (Ret (.tuple #[.agg #[.string ⟨#[50]⟩, .string ⟨#[53]⟩], .int .i64 0]) w1)))
  have HS := Lib.hid (fun (w1 : World) => sp_r w1)
  clear hw
  go_enter Tryz.func7, Tryz.ntmps7
  go_wp2_with fail
  refine (routeBook30 w).mono ?_
  rintro e1 w1 ⟨v1, v2, rfl, hv, hb⟩
  have HT := Lib.hid (tight_r w1 v1 v2 hv)
  have HB := Lib.hid hb
  obtain ⟨⟨_, _, rfl, _⟩, ⟨_, _, rfl, _⟩, _⟩ := hv
  clear hb
  go_wp2_with fail
  refine HT.out.mono ?_
  rintro e2 w2 ⟨vt, rfl, hs, hb⟩
  have HB2 := Lib.hid (HB.out.trans (hb.mono HB.out.size))
  obtain ⟨at1, ct, rfl, _, hA⟩ := hs
  obtain ⟨bt, ot, rfl, hbt, hcells⟩ := hA (by decide)
  have HCT := Lib.hid (fun (u : World) (hu : Below w2.heap.size w2 u) => And.intro ((hcells 0 (by decide)).below hu hbt).c2 ((hcells 1 (by decide)).below hu hbt).c2)
  have hbt2 := hbt
  clear hb hcells hA HB HT
  go_wp2_with fail
  refine (net_r36 _).mono ?_
  rintro e3 w3 ⟨rfl, hb⟩
  have HBL := Lib.hid hb
  have HX := Lib.hid (Box.new w3 #[.int .i64 18, .int .i64 21] 34)
  have hba := alloc_below w3 (.cells #[.int .i64 18, .int .i64 21] 34)
  have HB3 := Lib.hid (HBL.out.trans (hba.mono HBL.out.size))
  clear hb hba HBL
  obtain ⟨x0, x1, xf, xz⟩ := HX.out.v2
  go_wp2_with fail
  have hl := HS.out (w3.alloc (.cells #[.int .i64 18, .int .i64 21] 34))
  rw [show (w3.alloc (.cells #[.int .i64 18, .int .i64 21] 34)).heap.size = w3.heap.size + 1 by simp] at hl
  have HL := Lib.hid hl
  have hbc : Below w3.heap.size w3 ((w3.alloc (.cells #[.int .i64 18, .int .i64 21] 34)).alloc (.cells #[.string ⟨#[49]⟩, .string ⟨#[53]⟩, .string ⟨#[50]⟩, .string ⟨#[57]⟩] 39)) := (alloc_below _ _).alloc (by simp) _
  have hbd := alloc_below (w3.alloc (.cells #[.int .i64 18, .int .i64 21] 34)) (.cells #[.string ⟨#[49]⟩, .string ⟨#[53]⟩, .string ⟨#[50]⟩, .string ⟨#[57]⟩] 39)
  have HB4 := Lib.hid (HB3.out.trans (hbd.mono HB3.out.size))
  have HX4 := Lib.hid (HX.out.later hbd)
  clear hl hbc hbd x0 x1 xf xz
  refine (HM.out _ (HB2.out.trans (HB4.out.mono HB2.out.size)) _ HL.out).mono ?_
  rintro e4 w4 ⟨rfl, hb⟩
  have HY := Lib.hid (Box.new w4 #[.string ⟨#[50]⟩, .string ⟨#[53]⟩] 39)
  have hbe := hb.trans ((alloc_below w4 (.cells #[.string ⟨#[50]⟩, .string ⟨#[53]⟩] 39)).mono hb.size)
  have HX5 := Lib.hid (HX4.out.later hbe)
  have HB5 := Lib.hid (HB4.out.trans (hbe.mono HB4.out.size))
  obtain ⟨⟨c0, c1⟩, c2, c3⟩ := HCT.out _ HB5.out
  simp only [Nat.zero_mul, Nat.add_zero, Nat.one_mul] at c0 c1 c2 c3
  have hbt3 : bt < w4.heap.size + 1 := by have h := HB5.out.size; simp at h; omega
  clear hb hbe hbt hbt2
  obtain ⟨x0, x1, xf, xz⟩ := HX5.out.v2
  obtain ⟨y0, y1, yf, yz⟩ := HY.out.v2
  have HBB := Lib.hid (HB2.out.trans (HB5.out.mono HB2.out.size))
  clear HX HX4 HX5 HY HB3 HB4 HB5 HL HCT
  go_wp2_with fail
  go_ret
  exact ⟨rfl, HBB.out⟩
set_option maxRecDepth 100000 in
set_option maxHeartbeats 1000000 in
theorem routeSpan12 (w : World) (a b : Int) (h1 : -9223372036854775808 ≤ a ∧ a ≤ 9223372036854775807) (h2 : -9223372036854775808 ≤ b ∧ b ≤ 9223372036854775807) : Calls Tryz.prog 12 #[.agg #[.int .i64 a, .int .i64 b]] w (Ret (.agg #[.string (txz a), .string (txz b)]) w) := by
  have HA := Lib.hid (fun (w1 : World) => fromInt18 w1 a h1.1 h1.2)
  have HA2 := Lib.hid (fun (w1 : World) => fromInt18 w1 b h2.1 h2.2)
  generalize txz a = X at *
  generalize txz b = Y at *
  clear h1 h2
  have HB_0 := Lib.hid ((Below.refl w.heap.size w).alloc (Nat.le_refl _) (.cells #[.int .i64 a, .int .i64 b] 34))
  have HB := Lib.hid (HB_0.out.alloc HB_0.out.size (.cells #[.string ⟨#[]⟩, .string ⟨#[]⟩] 39))
  have HX := Lib.hid ((Box.new w #[.int .i64 a, .int .i64 b] 34).alloc (.cells #[.string ⟨#[]⟩, .string ⟨#[]⟩] 39))
  have HZ := Lib.hid (Box.newAt (w.alloc (.cells #[.int .i64 a, .int .i64 b] 34)) #[.string ⟨#[]⟩, .string ⟨#[]⟩] 39 (n := w.heap.size + 1) (by simp))
  obtain ⟨x0, x1, xf, xz⟩ := HX.out.v2
  obtain ⟨z0, z1, zf, zz⟩ := HZ.out.v2
  clear HB_0
  go_enter Tryz.func12, Tryz.ntmps12
  go_wp2_with fail
  refine wp_region_head_later 7 (by kernel_rfl) (by kernel_rfl) ?_
  simp only [List.take_succ_cons, List.take_zero, List.drop_succ_cons, List.drop_zero]
  repeat go_big_quiet_step ((go_at_call 18; first | with_reducible exact Calls.later (HA.out _) | with_reducible exact Calls.later (HA2.out _)))
  refine wpQuiet_nil ?_
  rintro w2 ⟨⟨_, hb2⟩, rfl⟩
  replace HB := Lib.hid (HB.out.trans (hb2.mono HB.out.size))
  replace HZ := Lib.hid (HZ.out.later hb2)
  clear hb2 z0 z1 zf zz
  obtain ⟨z0, z1, zf, zz⟩ := HZ.out.v2
  go_wp2_with fail
  refine bodyPost_ret (v := .agg #[.string X, .string Y]) (by simp [results, Tryz.results12, go_sem, *]) rfl ?_
  refine Ret.mk rfl ?_
  repeat (first | exact HB.out | exact Below.refl _ _ | refine Below.setCell ?_ (by first | (dsimp only; omega) | (simp; done) | (simp; omega)) _ | refine Below.alloc ?_ (by first | omega | (simp; done) | (simp; omega)) _ | refine Below.drew ?_)
end Go.Proofs.YtflchbejjofppaaGreatDoor.Nu
