/- Lemmas on the way to the law TopScales (part 25): Hi Hj Hk -/
import Derived.Test.YtflchbejjofppaaGreatDoorTopScalesP24
set_option linter.unusedVariables false
set_option linter.unusedSimpArgs false

/- Walks: the reference's quick. -/
namespace Go.Proofs.YtflchbejjofppaaGreatDoor.Nu
open Go Go.Proofs Go.RowKit Go.Proofs.YtflchbejjofppaaGreatDoor
structure Qk (q : Rat) : Prop where
  num : q.num.natAbs < 1000000000
  den : q.den < 1000000000
def qbody (q : Rat) : List UInt8 := Lib.decDigits q.num.natAbs ++ fracT q.den
theorem ratL_body (q : Rat) : ratL q = (if q.num < 0 then 45 :: qbody q else qbody q) := by
  rw [ratL_eq]
  unfold qbody
  by_cases h : q.num < 0
  · rw [if_pos h, itoa_ng h]; rfl
  · rw [if_neg h, itoa_nn (Int.not_lt.1 h), toNat_abs (Int.not_lt.1 h)]
theorem qbody_slash (q : Rat) : slashL (qbody q) = (Lib.decDigits q.num.natAbs).length := by
  have hno : (47 : UInt8) ∉ Lib.decDigits q.num.natAbs := fun h => absurd (dec_dig _ _ h) (by decide)
  unfold qbody fracT
  by_cases h : q.den = 1
  · rw [if_pos h, List.append_nil, slash_no hno]
  · rw [if_neg h, slash_app hno]
set_option maxRecDepth 100000 in
set_option maxHeartbeats 4000000 in
theorem quick137_yes (w : World) (q : Rat) (hq : Qk q) : Calls Tryz.prog 137 #[.string (txq q)] w fun e w' => e = .returned (.tuple #[.int .i64 q.num, .int .i64 (q.den : Int), .bool true]) ∧ w = w' := by
  have hln : (Lib.decDigits q.num.natAbs).length ≤ 9 := (dec_len_le (by decide)).2 (by rw [show (10 : Nat) ^ 9 = 1000000000 by decide]; exact hq.num)
  have hld : (Lib.decDigits q.den).length ≤ 9 := (dec_len_le (by decide)).2 (by rw [show (10 : Nat) ^ 9 = 1000000000 by decide]; exact hq.den)
  have hln0 := dec_pos_len q.num.natAbs
  have hfr : (q.den = 1 ∧ fracT q.den = []) ∨ (fracT q.den = 47 :: Lib.decDigits q.den) := by
    unfold fracT
    by_cases h : q.den = 1
    · exact .inl ⟨h, if_pos h⟩
    · exact .inr (if_neg h)
  have hbl : (qbody q).length = (Lib.decDigits q.num.natAbs).length + (fracT q.den).length := by unfold qbody; rw [List.length_append]
  have hfl : (fracT q.den).length ≤ 10 := by rcases hfr with ⟨_, h⟩ | h <;> rw [h] <;> simp; omega
  have HSL := Lib.hid (fun (w1 : World) => (by
    have h := slash74 w1 (qbody q) (by omega)
    rwa [qbody_slash] at h : Calls Tryz.prog 74 #[.string (tx (qbody q))] w1 fun e w' => e = .returned (.int .i64 (((Lib.decDigits q.num.natAbs).length : Nat) : Int)) ∧ w1 = w'))
  have HVN := Lib.hid (fun (w1 : World) => (by
    have h := value132 w1 (Lib.decDigits q.num.natAbs) (by omega) (dec_dig _)
    rwa [dval_dec] at h : Calls Tryz.prog 132 #[.string (tx (Lib.decDigits q.num.natAbs))] w1 fun e w' => e = .returned (.int .i64 ((q.num.natAbs : Nat) : Int)) ∧ w1 = w'))
  have HVD := Lib.hid (fun (w1 : World) => (by
    have h := value132 w1 (Lib.decDigits q.den) (by omega) (dec_dig _)
    rwa [dval_dec] at h : Calls Tryz.prog 132 #[.string (tx (Lib.decDigits q.den))] w1 fun e w' => e = .returned (.int .i64 ((q.den : Nat) : Int)) ∧ w1 = w'))
  have hx1 : (tx (qbody q)).extract 0 (Lib.decDigits q.num.natAbs).length = tx (Lib.decDigits q.num.natAbs) := by
    rw [tx_extract]; unfold qbody; simp
  have hsb : (tx (qbody q)).size = (qbody q).length := tx_size _
  have hsg : (q.num < 0 ∧ txq q = tx (45 :: qbody q)) ∨ (0 ≤ q.num ∧ txq q = tx (qbody q)) := by
    have h := ratL_body q
    by_cases hn : q.num < 0
    · rw [if_pos hn] at h; exact .inl ⟨hn, by unfold txq; rw [h]⟩
    · rw [if_neg hn] at h; exact .inr ⟨Int.not_lt.1 hn, by unfold txq; rw [h]⟩
  have hb0 : 0 < (qbody q).length := by omega
  have hh0 : (qbody q).head? ≠ some 45 := by
    unfold qbody
    rw [hd_app (dec_ne _)]
    intro e
    exact dec_no45 _ (List.mem_of_mem_head? e)
  have hi0 : ∀ (w : World), (Instr.index 9 (.string (tx (qbody q))) (.int .i64 0)).run Tryz.prog w = .ok (.int .u8 ((qbody q)[0].toNat : Int)) w := fun w => run_idx (P := Tryz.prog) (t := 9) Tryz.underlying9 _ 0 hb0 w
  have hc0 : (((qbody q)[0].toNat : Int) == 45) = false := beq_eq_false_iff_ne.2 (fun e => by
    rw [List.head?_eq_getElem?, List.getElem?_eq_getElem hb0] at hh0
    exact hh0 (congrArg some (UInt8.toNat_inj.1 (by rw [show (45 : UInt8).toNat = 45 from rfl]; omega))))
  have hi1 : ∀ (w : World), (Instr.index 9 (.string (tx (45 :: qbody q))) (.int .i64 0)).run Tryz.prog w = .ok (.int .u8 45) w := fun w => run_idx (P := Tryz.prog) (t := 9) Tryz.underlying9 (45 :: qbody q) 0 (by simp) w
  have hx0 : (tx (45 :: qbody q)).extract 1 ((qbody q).length + 1) = tx (qbody q) := by
    rw [tx_extract]; simp
  have hs1 : (tx (45 :: qbody q)).size = (qbody q).length + 1 := tx_size _
  have hway : (q.den = 1 ∧ (Lib.decDigits q.num.natAbs).length = (qbody q).length) ∨ ((Lib.decDigits q.num.natAbs).length < (qbody q).length ∧ (tx (qbody q)).extract ((Lib.decDigits q.num.natAbs).length + 1) (qbody q).length = tx (Lib.decDigits q.den)) := by
    rcases hfr with ⟨h1, h2⟩ | h2
    · exact .inl ⟨h1, by rw [hbl, h2]; rfl⟩
    · refine .inr ⟨by rw [hbl, h2]; simp, ?_⟩
      rw [tx_extract, List.take_length]
      unfold qbody
      rw [h2, ← List.drop_drop]
      simp
  have hqn : (q.num < 0 → IntKind.i64.wrap (0 - (q.num.natAbs : Int)) = q.num) ∧ (q.num < 0 → IntKind.i64.wrap (-(q.num.natAbs : Int)) = q.num) ∧ (0 ≤ q.num → (q.num.natAbs : Int) = q.num) := by
    have := hq.num
    refine ⟨fun h => ?_, fun h => ?_, fun h => by omega⟩ <;> rw [IntWalk.i64_in _ (by omega)] <;> omega
  clear hfr hh0 hq
  obtain ⟨X, hX⟩ : ∃ X, txq q = X := ⟨_, rfl⟩
  rw [hX] at hsg ⊢
  clear hX
  generalize (qbody q)[0].toNat = c at *
  generalize tx (45 :: qbody q) = X1 at *
  generalize (fracT q.den).length = fl at *
  generalize tx (qbody q) = B at *
  generalize (qbody q).length = n at *
  generalize tx (Lib.decDigits q.num.natAbs) = D at *
  generalize tx (Lib.decDigits q.den) = E at *
  generalize (Lib.decDigits q.num.natAbs).length = k at *
  generalize (Lib.decDigits q.den).length = el at *
  generalize q.den = d at *
  generalize q.num = z at *
  generalize z.natAbs = m at *
  have d1 : decide (20 < n) = false := decide_eq_false (by omega)
  have d2 : decide ((20 : Int) < (n : Int)) = false := decide_eq_false (by omega)
  have d3 : decide (20 < n + 1) = false := decide_eq_false (by omega)
  have d4 : decide ((20 : Int) < ((n + 1 : Nat) : Int)) = false := decide_eq_false (by omega)
  have d5 : decide (9 < k) = false := decide_eq_false (by omega)
  have d6 : decide ((9 : Int) < (k : Int)) = false := decide_eq_false (by omega)
  have k1 : IntKind.i64.wrap ((n : Int) - (k : Int)) = (n : Int) - (k : Int) := IntWalk.i64_in _ (by omega)
  have d7 : decide ((10 : Int) < (n : Int) - (k : Int)) = false := decide_eq_false (by omega)
  have k2 : IntKind.i64.wrap ((k : Int) + 1) = ((k + 1 : Nat) : Int) := by rw [IntWalk.i64_in _ (by omega)]; omega
  have hkn : k ≤ n := by omega
  have hnk : n - k ≤ 10 := by omega
  clear hbl hfl hld
  rcases hsg with ⟨hz, rfl⟩ | ⟨hz, rfl⟩
  · have HQ := Lib.hid (hqn.1 hz)
    have k3 := hqn.1 hz
    have k4 := hqn.2.1 hz
    clear hi0 hqn
    rcases hway with ⟨rfl, rfl⟩ | ⟨hlt, hx2⟩
    · go_enter Tryz.func137, Tryz.ntmps137
      go_wp2_with fail
      refine (HSL.out _).mono ?_
      rintro e4 w4 ⟨rfl, rfl⟩
      go_wp2_with fail
      refine (HVN.out _).mono ?_
      rintro e5 w5 ⟨rfl, rfl⟩
      go_wp2_with fail
      refine bodyPost_ret (v := .tuple #[.int .i64 z, .int .i64 1, .bool true]) (by simp [results, Tryz.results137, go_sem, *]) rfl ?_
      exact ⟨rfl, rfl⟩
    · go_enter Tryz.func137, Tryz.ntmps137
      go_wp2_with fail
      refine (HSL.out _).mono ?_
      rintro e4 w4 ⟨rfl, rfl⟩
      go_wp2_with fail
      refine (HVN.out _).mono ?_
      rintro e5 w5 ⟨rfl, rfl⟩
      go_wp2_with fail
      refine (HVD.out _).mono ?_
      rintro e6 w6 ⟨rfl, rfl⟩
      go_wp2_with fail
      refine bodyPost_ret (v := .tuple #[.int .i64 z, .int .i64 (d : Int), .bool true]) (by simp [results, Tryz.results137, go_sem, *]) rfl ?_
      exact ⟨rfl, rfl⟩
  · have hzz := hqn.2.2 hz
    have HZ := Lib.hid hzz
    clear hi1 hqn hzz
    rcases hway with ⟨rfl, rfl⟩ | ⟨hlt, hx2⟩
    · go_enter Tryz.func137, Tryz.ntmps137
      go_wp2_with fail
      refine (HSL.out _).mono ?_
      rintro e4 w4 ⟨rfl, rfl⟩
      go_wp2_with fail
      refine (HVN.out _).mono ?_
      rintro e5 w5 ⟨rfl, rfl⟩
      go_wp2_with fail
      refine bodyPost_ret (v := .tuple #[.int .i64 (m : Int), .int .i64 1, .bool true]) (by simp [results, Tryz.results137, go_sem, *]) rfl ?_
      exact ⟨by rw [HZ.out]; rfl, rfl⟩
    · go_enter Tryz.func137, Tryz.ntmps137
      go_wp2_with fail
      refine (HSL.out _).mono ?_
      rintro e4 w4 ⟨rfl, rfl⟩
      go_wp2_with fail
      refine (HVN.out _).mono ?_
      rintro e5 w5 ⟨rfl, rfl⟩
      go_wp2_with fail
      refine (HVD.out _).mono ?_
      rintro e6 w6 ⟨rfl, rfl⟩
      go_wp2_with fail
      refine bodyPost_ret (v := .tuple #[.int .i64 (m : Int), .int .i64 (d : Int), .bool true]) (by simp [results, Tryz.results137, go_sem, *]) rfl ?_
      exact ⟨by rw [HZ.out], rfl⟩
end Go.Proofs.YtflchbejjofppaaGreatDoor.Nu
/- Walks: the reference's Add, Sub, Cmp, Max at short numbers. -/
namespace Go.Proofs.YtflchbejjofppaaGreatDoor.Nu
open Go Go.Proofs Go.RowKit Go.Proofs.YtflchbejjofppaaGreatDoor
theorem qk_mul {a : Int} {d : Nat} (h1 : a.natAbs < 1000000000) (h2 : d < 1000000000) : -1000000000000000000 < a * (d : Int) ∧ a * (d : Int) < 1000000000000000000 := by
  have h3 : (a * (d : Int)).natAbs ≤ 999999999 * 999999999 := by
    rw [Int.natAbs_mul, Int.natAbs_natCast]
    exact Nat.mul_le_mul (by omega) (by omega)
  omega
set_option maxRecDepth 100000 in
set_option maxHeartbeats 4000000 in
theorem add109_quick (w : World) (p q : Rat) (hp : Qk p) (hq : Qk q) : Calls Tryz.prog 109 #[.string (txq p), .string (txq q)] w (Ret (.string (txq (p + q))) w) := by
  have HQ1 := Lib.hid (fun (w1 : World) => quick137_yes w1 p hp)
  have HQ2 := Lib.hid (fun (w1 : World) => quick137_yes w1 q hq)
  have b1 := qk_mul hp.num hq.den
  have b2 := qk_mul hq.num hp.den
  have b3 : ((p.den * q.den : Nat) : Int) < 1000000000000000000 := by
    have := Nat.mul_le_mul (show p.den ≤ 999999999 by have := hp.den; omega) (show q.den ≤ 999999999 by have := hq.den; omega)
    omega
  have b4 : 0 < p.den * q.den := Nat.mul_pos p.den_pos q.den_pos
  have HO := Lib.hid (fun (w1 : World) => (by
    have h := of138 w1 (p.num * (q.den : Int) + q.num * (p.den : Int)) (p.den * q.den) (by omega) (by omega) b4 (by omega)
    rwa [← Rat.add_def'] at h : Calls Tryz.prog 138 #[.int .i64 (p.num * (q.den : Int) + q.num * (p.den : Int)), .int .i64 ((p.den * q.den : Nat) : Int)] w1 (Ret (.string (txq (p + q))) w1)))
  obtain ⟨X, hX⟩ : ∃ X, txq p = X := ⟨_, rfl⟩
  obtain ⟨Y, hY⟩ : ∃ Y, txq q = Y := ⟨_, rfl⟩
  obtain ⟨Z, hZ⟩ : ∃ Z, txq (p + q) = Z := ⟨_, rfl⟩
  rw [hX] at HQ1
  rw [hY] at HQ2
  rw [hZ] at HO
  rw [hX, hY, hZ]
  clear hX hY hZ hp hq b4
  rw [Int.natCast_mul] at HO b3
  generalize p.num = n at *
  generalize q.num = m at *
  generalize p.den = d at *
  generalize q.den = e at *
  have b5 : 0 ≤ (d : Int) * (e : Int) := Int.mul_nonneg (by omega) (by omega)
  obtain ⟨u, hu⟩ : ∃ u, n * (e : Int) = u := ⟨_, rfl⟩
  obtain ⟨v, hv⟩ : ∃ v, m * (d : Int) = v := ⟨_, rfl⟩
  obtain ⟨t, ht⟩ : ∃ t, (d : Int) * (e : Int) = t := ⟨_, rfl⟩
  rw [hu, hv, ht] at HO
  rw [hu] at b1
  rw [hv] at b2
  rw [ht] at b3 b5
  have k1 : IntKind.i64.wrap (n * (e : Int)) = u := by rw [hu]; exact IntWalk.i64_in _ (by omega)
  have k2 : IntKind.i64.wrap (m * (d : Int)) = v := by rw [hv]; exact IntWalk.i64_in _ (by omega)
  have k3 : IntKind.i64.wrap ((d : Int) * (e : Int)) = t := by rw [ht]; exact IntWalk.i64_in _ (by omega)
  have k4 : IntKind.i64.wrap (u + v) = u + v := IntWalk.i64_in _ (by omega)
  have k5 : IntKind.i64.wrap u = u := IntWalk.i64_in _ (by omega)
  have k6 : IntKind.i64.wrap v = v := IntWalk.i64_in _ (by omega)
  have k7 : IntKind.i64.wrap t = t := IntWalk.i64_in _ (by omega)
  clear b1 b2 b3 b5
  go_enter Tryz.func109, Tryz.ntmps109
  go_wp2_with fail
  refine (HQ1.out _).mono ?_
  rintro e4 w4 ⟨rfl, rfl⟩
  go_wp2_with fail
  refine (HQ2.out _).mono ?_
  rintro e5 w5 ⟨rfl, rfl⟩
  go_wp2_with fail
  refine (HO.out _).mono ?_
  rintro e6 w6 ⟨rfl, hb⟩
  have HB := Lib.hid hb
  clear hb
  go_wp2_with fail
  go_ret
  exact ⟨rfl, HB.out⟩
def AddK (p q : Rat) : Prop := ∀ w : World, Calls Tryz.prog 109 #[.string (txq p), .string (txq q)] w (Ret (.string (txq (p + q))) w)
set_option maxRecDepth 100000 in
set_option maxHeartbeats 1000000 in
theorem rsub78 (w : World) (p q : Rat) (ha : AddK p (-q)) (hl : (ratL q).length ≤ 100000000) : Calls Tryz.prog 78 #[.string (txq p), .string (txq q)] w (Ret (.string (txq (p - q))) w) := by
  have HN := Lib.hid (fun (w1 : World) => rneg110 w1 q hl)
  have HA := Lib.hid ha
  unfold AddK at HA
  rw [show p + -q = p - q by grind] at HA
  generalize txq p = X at *
  generalize txq q = Y at *
  generalize txq (-q) = Z at *
  generalize txq (p - q) = R at *
  clear ha hl
  go_enter Tryz.func78, Tryz.ntmps78
  go_wp2_with fail
  refine (HN.out _).mono ?_
  rintro e4 w4 ⟨rfl, rfl⟩
  go_wp2_with fail
  refine (HA.out _).mono ?_
  rintro e5 w5 ⟨rfl, hb⟩
  have HB := Lib.hid hb
  clear hb
  go_wp2_with fail
  go_ret
  exact ⟨rfl, HB.out⟩
set_option maxRecDepth 100000 in
set_option maxHeartbeats 1000000 in
theorem rcmp46 (w : World) (p q : Rat) (ha : AddK p (-q)) (hl : (ratL q).length ≤ 100000000) (hl2 : (ratL (p - q)).length ≤ 100000000) : Calls Tryz.prog 46 #[.string (txq p), .string (txq q)] w (Ret (.int .i64 (p - q).num.sign) w) := by
  have HS := Lib.hid (fun (w1 : World) => rsub78 w1 p q ha hl)
  have HG := Lib.hid (fun (w1 : World) => rsign26 w1 (p - q) (by omega))
  generalize txq p = X at *
  generalize txq q = Y at *
  generalize txq (p - q) = R at *
  generalize (p - q).num.sign = s at *
  clear ha hl hl2
  go_enter Tryz.func46, Tryz.ntmps46
  go_wp2_with fail
  refine (HS.out _).mono ?_
  rintro e4 w4 ⟨rfl, hb⟩
  have HB := Lib.hid hb
  clear hb
  go_wp2_with fail
  refine (HG.out _).mono ?_
  rintro e5 w5 ⟨rfl, rfl⟩
  go_wp2_with fail
  go_ret
  exact ⟨rfl, HB.out⟩
theorem ratL_len_int {z : Int} (h : z.natAbs < 1000000000000000000) : (ratL (z : Rat)).length ≤ 100 := by
  rw [ratL_int]
  have := itoa_len_le (k := 18) (by decide) (show z.natAbs < 10 ^ 18 by rw [show (10 : Nat) ^ 18 = 1000000000000000000 by decide]; exact h)
  omega
theorem int_sub_rat (a b : Int) : (a : Rat) - (b : Rat) = ((a - b : Int) : Rat) := by rw [Rat.intCast_sub]
theorem zcmp46 (w : World) (a b : Int) (ha : AddK (a : Rat) ((-b : Int) : Rat)) (h1 : a.natAbs < 400000000000000000) (h2 : b.natAbs < 400000000000000000) : Calls Tryz.prog 46 #[.string (txz a), .string (txz b)] w (Ret (.int .i64 (a - b).sign) w) := by
  have h := rcmp46 w (a : Rat) (b : Rat) (by rw [← Rat.intCast_neg]; exact ha) (by have := ratL_len_int (z := b) (by omega); omega) (by rw [int_sub_rat]; have := ratL_len_int (z := a - b) (by omega); omega)
  rwa [txq_int, txq_int, int_sub_rat, Rat.num_intCast] at h
theorem qk_int {z : Int} (h : z.natAbs < 1000000000) : Qk (z : Rat) := ⟨by rw [Rat.num_intCast]; exact h, by rw [Rat.den_intCast]; decide⟩
theorem addK_quick {a b : Int} (h1 : a.natAbs < 1000000000) (h2 : b.natAbs < 1000000000) : AddK (a : Rat) ((-b : Int) : Rat) := fun w => add109_quick w _ _ (qk_int h1) (qk_int (by omega))
set_option maxRecDepth 100000 in
set_option maxHeartbeats 1000000 in
theorem zmax27 (w : World) (a b : Int) (ha : AddK (a : Rat) ((-b : Int) : Rat)) (h1 : a.natAbs < 400000000000000000) (h2 : b.natAbs < 400000000000000000) : Calls Tryz.prog 27 #[.string (txz a), .string (txz b)] w (Ret (.string (txz (max a b))) w) := by
  have HC := Lib.hid (fun (w1 : World) => zcmp46 w1 a b ha h1 h2)
  have hway : (decide (0 ≤ (a - b).sign) = true ∧ max a b = a) ∨ (decide (0 ≤ (a - b).sign) = false ∧ max a b = b) := by
    rcases Int.lt_trichotomy (a - b) 0 with h | h | h
    · exact .inr ⟨by rw [Int.sign_eq_neg_one_of_neg h]; rfl, by omega⟩
    · exact .inl ⟨by rw [h]; rfl, by omega⟩
    · exact .inl ⟨by rw [Int.sign_eq_one_of_pos h]; rfl, by omega⟩
  obtain ⟨M, hM⟩ : ∃ M, max a b = M := ⟨_, rfl⟩
  rw [hM] at hway ⊢
  clear hM ha h1 h2
  generalize (a - b).sign = s at *
  rcases hway with ⟨d0, rfl⟩ | ⟨d0, rfl⟩
  · generalize txz M = X at *
    generalize txz b = Y at *
    go_enter Tryz.func27, Tryz.ntmps27
    go_wp2_with fail
    refine (HC.out _).mono ?_
    rintro e4 w4 ⟨rfl, hb⟩
    have HB := Lib.hid hb
    clear hb
    go_wp2_with fail
    go_ret
    exact ⟨rfl, HB.out⟩
  · generalize txz M = X at *
    generalize txz a = Y at *
    go_enter Tryz.func27, Tryz.ntmps27
    go_wp2_with fail
    refine (HC.out _).mono ?_
    rintro e4 w4 ⟨rfl, hb⟩
    have HB := Lib.hid hb
    clear hb
    go_wp2_with fail
    go_ret
    exact ⟨rfl, HB.out⟩
end Go.Proofs.YtflchbejjofppaaGreatDoor.Nu
/- Walks: the reference's Check, CheckSpan, In at whole numbers. -/
namespace Go.Proofs.YtflchbejjofppaaGreatDoor.Nu
open Go Go.Proofs Go.RowKit Go.Proofs.YtflchbejjofppaaGreatDoor
set_option maxRecDepth 100000 in
set_option maxHeartbeats 1000000 in
theorem decForm75 (w : World) (n : Nat) (hn : (Lib.decDigits n).length ≤ 1000) : Calls Tryz.prog 75 #[.string (tx (Lib.decDigits n))] w fun e w' => e = .returned (.bool true) ∧ w = w' := by
  have HD := Lib.hid (fun (w1 : World) => digits106 w1 (Lib.decDigits n) (by omega) (dec_dig n))
  have hlt := dec_pos_len n
  have hi : ∀ (w : World), (Instr.index 9 (.string (tx (Lib.decDigits n))) (.int .i64 0)).run Tryz.prog w = .ok (.int .u8 ((Lib.decDigits n)[0].toNat : Int)) w := fun w => run_idx (P := Tryz.prog) (t := 9) Tryz.underlying9 _ 0 hlt w
  have hsz : (tx (Lib.decDigits n)).size = (Lib.decDigits n).length := tx_size _
  have hway : ((Lib.decDigits n).length = 1) ∨ (1 < (Lib.decDigits n).length ∧ (((Lib.decDigits n)[0].toNat : Int) == 48) = false) := by
    rcases (show (Lib.decDigits n).length = 1 ∨ 1 < (Lib.decDigits n).length by omega) with h | h
    · exact .inl h
    · refine .inr ⟨h, beq_eq_false_iff_ne.2 fun e => ?_⟩
      have h0 : 0 < n := by
        rcases Nat.eq_zero_or_pos n with h0 | h0
        · rw [h0, dec_zero] at h; simp at h
        · exact h0
      have h1 := dec_head h0
      rw [List.head?_eq_getElem?, List.getElem?_eq_getElem hlt] at h1
      exact h1 (congrArg some (UInt8.toNat_inj.1 (by rw [show (48 : UInt8).toNat = 48 from rfl]; omega)))
  generalize ((Lib.decDigits n)[0].toNat : Int) = c at *
  generalize tx (Lib.decDigits n) = X at *
  generalize (Lib.decDigits n).length = m at *
  have d0 : (m == 0) = false := beq_eq_false_iff_ne.2 (by omega)
  have d0' : ((m : Int) == 0) = false := beq_eq_false_iff_ne.2 (by omega)
  rcases hway with rfl | ⟨h1, h2⟩
  · clear hlt hn
    go_enter Tryz.func75, Tryz.ntmps75
    go_wp2_with fail
    refine (HD.out _).mono ?_
    rintro e4 w4 ⟨rfl, rfl⟩
    go_wp2_with fail
    go_ret
    exact ⟨rfl, rfl⟩
  · go_enter Tryz.func75, Tryz.ntmps75
    go_wp2_with fail
    refine (HD.out _).mono ?_
    rintro e4 w4 ⟨rfl, rfl⟩
    go_wp2_with fail
    go_ret
    exact ⟨rfl, rfl⟩
set_option maxRecDepth 100000 in
set_option maxHeartbeats 4000000 in
theorem zcheck45 (w : World) (z : Int) (hz : z.natAbs < 1000000000000000000) : Calls Tryz.prog 45 #[.string (txz z)] w fun e w' => e = .returned (.int .i64 0) ∧ w = w' := by
  have hln : (Lib.decDigits z.natAbs).length ≤ 18 := (dec_len_le (by decide)).2 (by rw [show (10 : Nat) ^ 18 = 1000000000000000000 by decide]; exact hz)
  have hln0 := dec_pos_len z.natAbs
  have hno : (47 : UInt8) ∉ Lib.decDigits z.natAbs := fun h => absurd (dec_dig _ _ h) (by decide)
  have HSL := Lib.hid (fun (w1 : World) => (by
    have h := slash74 w1 (Lib.decDigits z.natAbs) (by omega)
    rwa [slash_no hno] at h : Calls Tryz.prog 74 #[.string (tx (Lib.decDigits z.natAbs))] w1 fun e w' => e = .returned (.int .i64 (((Lib.decDigits z.natAbs).length : Nat) : Int)) ∧ w1 = w'))
  have HDF := Lib.hid (fun (w1 : World) => decForm75 w1 z.natAbs (by omega))
  have hx1 : (tx (Lib.decDigits z.natAbs)).extract 0 (Lib.decDigits z.natAbs).length = tx (Lib.decDigits z.natAbs) := by
    rw [tx_extract]; simp
  have hsb : (tx (Lib.decDigits z.natAbs)).size = (Lib.decDigits z.natAbs).length := tx_size _
  have hsg : (z < 0 ∧ txz z = tx (45 :: Lib.decDigits z.natAbs) ∧ ((tx (Lib.decDigits z.natAbs)).toList == [48]) = false) ∨ (0 ≤ z ∧ txz z = tx (Lib.decDigits z.natAbs)) := by
    by_cases hn : z < 0
    · refine .inl ⟨hn, by unfold txz; rw [itoa_ng hn], ?_⟩
      rw [tx_beq]
      refine decide_eq_false (fun e => ?_)
      have : z.natAbs = 0 := dec_inj (by rw [e, dec_zero])
      omega
    · exact .inr ⟨Int.not_lt.1 hn, by unfold txz; rw [itoa_nn (Int.not_lt.1 hn), toNat_abs (Int.not_lt.1 hn)]⟩
  have hc0 : (((Lib.decDigits z.natAbs)[0].toNat : Int) == 45) = false := beq_eq_false_iff_ne.2 (fun e => by
    have h1 := dec_dig z.natAbs _ (List.getElem_mem hln0)
    obtain ⟨h2, h3⟩ := h1
    omega)
  have hi0 : ∀ (t : TypeId) (ht : Tryz.prog.underlying t = some .string) (w : World), (Instr.index t (.string (tx (Lib.decDigits z.natAbs))) (.int .i64 0)).run Tryz.prog w = .ok (.int .u8 ((Lib.decDigits z.natAbs)[0].toNat : Int)) w := fun t ht w => run_idx (P := Tryz.prog) (t := t) ht _ 0 hln0 w
  have hi1 : ∀ (t : TypeId) (ht : Tryz.prog.underlying t = some .string) (w : World), (Instr.index t (.string (tx (45 :: Lib.decDigits z.natAbs))) (.int .i64 0)).run Tryz.prog w = .ok (.int .u8 45) w := fun t ht w => run_idx (P := Tryz.prog) (t := t) ht (45 :: Lib.decDigits z.natAbs) 0 (by simp) w
  have hx0 : (tx (45 :: Lib.decDigits z.natAbs)).extract 1 ((Lib.decDigits z.natAbs).length + 1) = tx (Lib.decDigits z.natAbs) := by
    rw [tx_extract]; simp
  have hs1 : (tx (45 :: Lib.decDigits z.natAbs)).size = (Lib.decDigits z.natAbs).length + 1 := tx_size _
  have hi09 := hi0 9 Tryz.underlying9
  have hi037 := hi0 37 Tryz.underlying37
  have hi19 := hi1 9 Tryz.underlying9
  have hi137 := hi1 37 Tryz.underlying37
  clear hno hz hi0 hi1
  generalize txz z = X at *
  generalize (Lib.decDigits z.natAbs)[0].toNat = c at *
  generalize tx (45 :: Lib.decDigits z.natAbs) = X1 at *
  generalize tx (Lib.decDigits z.natAbs) = B at *
  generalize (Lib.decDigits z.natAbs).length = k at *
  have d1 : decide (600 < k) = false := decide_eq_false (by omega)
  have d2 : decide ((600 : Int) < (k : Int)) = false := decide_eq_false (by omega)
  have k1 : IntKind.i64.wrap ((k : Int) - (k : Int)) = 0 := by rw [Int.sub_self]; exact IntWalk.i64_in _ (by omega)
  rcases hsg with ⟨hz, rfl, hb48⟩ | ⟨hz, rfl⟩
  · clear hi09 hi037
    go_enter Tryz.func45, Tryz.ntmps45
    go_wp2_with fail
    refine (HSL.out _).mono ?_
    rintro e4 w4 ⟨rfl, rfl⟩
    go_wp2_with fail
    refine (HDF.out _).mono ?_
    rintro e5 w5 ⟨rfl, rfl⟩
    go_wp2_with fail
    go_ret
    exact ⟨rfl, rfl⟩
  · clear hi19 hi137
    go_enter Tryz.func45, Tryz.ntmps45
    go_wp2_with fail
    refine (HSL.out _).mono ?_
    rintro e4 w4 ⟨rfl, rfl⟩
    go_wp2_with fail
    refine (HDF.out _).mono ?_
    rintro e5 w5 ⟨rfl, rfl⟩
    go_wp2_with fail
    go_ret
    exact ⟨rfl, rfl⟩
set_option maxRecDepth 100000 in
set_option maxHeartbeats 1000000 in
theorem zcheckSpan14 (w : World) (a b : Int) (hk : AddK (a : Rat) ((-b : Int) : Rat)) (h1 : a.natAbs < 400000000000000000) (h2 : b.natAbs < 400000000000000000) (hab : a ≤ b) : Calls Tryz.prog 14 #[.agg #[.string (txz a), .string (txz b)]] w (Ret (.int .i64 0) w) := by
  have HA := Lib.hid (fun (w1 : World) => zcheck45 w1 a (by omega))
  have HBB := Lib.hid (fun (w1 : World) => zcheck45 w1 b (by omega))
  have HC := Lib.hid (fun (w1 : World) => zcmp46 w1 a b hk h1 h2)
  have d0 : decide (0 < (a - b).sign) = false := by
    rcases Int.lt_trichotomy (a - b) 0 with h | h | h
    · rw [Int.sign_eq_neg_one_of_neg h]; rfl
    · rw [h]; rfl
    · omega
  generalize (a - b).sign = s at *
  generalize txz a = X at *
  generalize txz b = Y at *
  clear hk h1 h2 hab
  have HB := Lib.hid ((Below.refl w.heap.size w).alloc (Nat.le_refl _) (.cells #[.string X, .string Y] 39))
  have HX := Lib.hid (Box.new w #[.string X, .string Y] 39)
  obtain ⟨x0, x1, xf, xz⟩ := HX.out.v2
  go_enter Tryz.func14, Tryz.ntmps14
  go_wp2_with fail
  refine (HA.out _).mono ?_
  rintro e4 w4 ⟨rfl, rfl⟩
  go_wp2_with fail
  refine (HBB.out _).mono ?_
  rintro e5 w5 ⟨rfl, rfl⟩
  go_wp2_with fail
  refine (HC.out _).mono ?_
  rintro e6 w6 ⟨rfl, hb⟩
  replace HB := Lib.hid (HB.out.trans (hb.mono HB.out.size))
  clear hb
  go_wp2_with fail
  go_ret
  exact ⟨rfl, HB.out⟩
end Go.Proofs.YtflchbejjofppaaGreatDoor.Nu
