/- Lemmas on the way to the law TopChanges (part 26): Hg Hh Hi Ka Kb -/
import Derived.Test.YtflchbejjofppaaGreatDoorTopChangesP25
import Derived.Test.YtflchbejjofppaaGreatDoorTopChangesP22
import Derived.Test.YtflchbejjofppaaGreatDoorTopChangesP24
set_option linter.unusedVariables false
set_option linter.unusedSimpArgs false

/- Walks: the reference's Of. -/
namespace Go.Proofs.YtflchbejjofppaaGreatDoor.Nu
open Go Go.Proofs Go.RowKit Go.Proofs.YtflchbejjofppaaGreatDoor
theorem tdiv_gcd (n : Int) (d : Nat) (hd : 0 < d) : n.tdiv ((Nat.gcd n.natAbs d : Nat) : Int) = (mkRat n d).num ∧ (d : Int).tdiv ((Nat.gcd n.natAbs d : Nat) : Int) = ((mkRat n d).den : Int) := by
  have h := mk_num (z1 := n) (z2 := (d : Int)) (by omega)
  simp only [Int.natAbs_natCast] at h
  rw [h.1, h.2]
  refine ⟨Int.tdiv_eq_ediv_of_dvd ?_, Int.tdiv_eq_ediv_of_dvd ?_⟩
  · exact Int.ofNat_dvd_left.2 (Nat.gcd_dvd_left _ _)
  · exact Int.natCast_dvd_natCast.2 (Nat.gcd_dvd_right _ _)
def fracT (d : Nat) : List UInt8 := if d = 1 then [] else 47 :: Lib.decDigits d
theorem ratL_eq (q : Rat) : ratL q = Lib.itoa q.num ++ fracT q.den := rfl
set_option maxRecDepth 100000 in
set_option maxHeartbeats 4000000 in
theorem of138 (w : World) (n : Int) (d : Nat) (h1 : -4000000000000000000 ≤ n) (h2 : n ≤ 4000000000000000000) (hd : 0 < d) (hd2 : d ≤ 4000000000000000000) : Calls Tryz.prog 138 #[.int .i64 n, .int .i64 (d : Int)] w (Ret (.string (txq (mkRat n d))) w) := by
  have HG := Lib.hid (fun (w1 : World) => gcd158 w1 n.natAbs d (by omega) (by omega))
  obtain ⟨kq, ke⟩ := tdiv_gcd n d hd
  have hg0 : 0 < Nat.gcd n.natAbs d := Nat.gcd_pos_of_pos_right _ hd
  have hqa : (mkRat n d).num.natAbs ≤ n.natAbs := by
    rw [← kq, Int.natAbs_tdiv]; exact Nat.div_le_self _ _
  have hea : (mkRat n d).den ≤ d := by
    have := congrArg Int.natAbs ke
    rw [Int.natAbs_tdiv, Int.natAbs_natCast, Int.natAbs_natCast, Int.natAbs_natCast] at this
    rw [← this]; exact Nat.div_le_self _ _
  have he0 : 0 < (mkRat n d).den := (mkRat n d).den_pos
  have HR := Lib.hid (show txq (mkRat n d) = tx (Lib.itoa (mkRat n d).num ++ fracT (mkRat n d).den) from rfl)
  generalize (mkRat n d).num = q at *
  generalize (mkRat n d).den = e at *
  generalize txq (mkRat n d) = R at *
  generalize Nat.gcd n.natAbs d = g at *
  have hq1 : -4000000000000000000 ≤ q ∧ q ≤ 4000000000000000000 := by omega
  have he1 : e ≤ 4000000000000000000 := by omega
  have HD := Lib.hid (fun (w1 : World) (m : Nat) (hm : m ≤ 9223372036854775807) => (by
    have h := decimal79 w1 m 1 hm (by decide) (by decide)
    rw [padTo_one] at h
    exact h : Calls Tryz.prog 79 #[.int .i64 (m : Int), .int .i64 1] w1 fun e w' => e = .returned (.string (tx (Lib.decDigits m))) ∧ w1 = w'))
  have HDQ := Lib.hid (fun (w1 : World) => HD.out w1 q.natAbs (by omega))
  have HDE := Lib.hid (fun (w1 : World) => HD.out w1 e (by omega))
  have d1 : decide (n < -4000000000000000000) = false := decide_eq_false (by omega)
  have d2 : decide (4000000000000000000 < n) = false := decide_eq_false (by omega)
  have d3 : decide ((d : Int) < -4000000000000000000) = false := decide_eq_false (by omega)
  have d4 : decide ((4000000000000000000 : Int) < (d : Int)) = false := decide_eq_false (by omega)
  have d5 : decide (4000000000000000000 < d) = false := decide_eq_false (by omega)
  have d6 : decide ((d : Int) < 0) = false := decide_eq_false (by omega)
  have k1 : IntKind.i64.wrap (-n) = -n := IntWalk.i64_in _ (by omega)
  have k2 : max n (-n) = (n.natAbs : Int) := by omega
  have k8 : ¬ g = 0 := by omega
  have k3 : ((g : Int) == 0) = false := beq_eq_false_iff_ne.2 (by omega)
  have k4 : IntKind.i64.wrap (-q) = -q := IntWalk.i64_in _ (by omega)
  have k5 : max q (-q) = (q.natAbs : Int) := by omega
  have k6 : IntKind.i64.wrap q = q := IntWalk.i64_in _ (by omega)
  have k7 : IntKind.i64.wrap (e : Int) = e := IntWalk.i64_in _ (by omega)
  have hlq : (Lib.decDigits q.natAbs).length ≤ 19 := (dec_len_le (by decide)).2 (by rw [show (10 : Nat) ^ 19 = 10000000000000000000 by decide]; omega)
  have hle : (Lib.decDigits e).length ≤ 19 := (dec_len_le (by decide)).2 (by rw [show (10 : Nat) ^ 19 = 10000000000000000000 by decide]; omega)
  have hway : ∃ (p r : Bool) (sg fr : List UInt8), decide (q < 0) = p ∧ decide (1 < e) = r ∧ decide ((1 : Int) < (e : Int)) = r ∧ Lib.itoa q = sg ++ Lib.decDigits q.natAbs ∧ fracT e = fr ∧ ((p = true ∧ sg = [45]) ∨ (p = false ∧ sg = [])) ∧ ((r = true ∧ fr = 47 :: Lib.decDigits e) ∨ (r = false ∧ fr = [])) := by
    refine ⟨_, _, (if q < 0 then [45] else []), _, rfl, rfl, ?_, ?_, rfl, ?_, ?_⟩
    · by_cases h : 1 < e
      · rw [decide_eq_true h, decide_eq_true (by omega)]
      · rw [decide_eq_false h, decide_eq_false (by omega)]
    · by_cases h : q < 0
      · rw [if_pos h, itoa_ng h]; rfl
      · rw [if_neg h, itoa_nn (Int.not_lt.1 h), toNat_abs (Int.not_lt.1 h)]; rfl
    · by_cases h : q < 0
      · exact .inl ⟨decide_eq_true h, if_pos h⟩
      · exact .inr ⟨decide_eq_false h, if_neg h⟩
    · unfold fracT
      by_cases h : 1 < e
      · exact .inl ⟨decide_eq_true h, if_neg (by omega)⟩
      · exact .inr ⟨decide_eq_false h, if_pos (by omega)⟩
  obtain ⟨p, r, sg, fr, d7, d8, d9, e1, e2, hp, hr⟩ := hway
  rw [e1, e2] at HR
  have hs1 := tx_size (Lib.decDigits q.natAbs)
  have hs2 := tx_size (Lib.decDigits e)
  obtain ⟨A, hA⟩ : ∃ A, Lib.decDigits q.natAbs = A := ⟨_, rfl⟩
  obtain ⟨E, hE⟩ : ∃ E, Lib.decDigits e = E := ⟨_, rfl⟩
  rw [hA] at HR HDQ hs1 hlq
  rw [hE] at HDE hs2 hle hr
  generalize q.natAbs = m at *
  generalize n.natAbs = nn at *
  clear h1 h2 hd hd2 hqa hea hq1 he1 e1 e2 HD hA hE hg0 he0
  have HSA := Lib.hid (show ∀ X : List UInt8, X = sg → tx X ++ tx A = tx (sg ++ A) from fun X h => by rw [h, tx_app])
  have hsz1 : (tx (sg ++ A)).size ≤ 30 := by
    rw [tx_size, List.length_append]
    rcases hp with ⟨_, rfl⟩ | ⟨_, rfl⟩ <;> simp <;> omega
  have HS2 := Lib.hid (tx_app (sg ++ A) [47])
  have HS3 := Lib.hid (tx_app (sg ++ A ++ [47]) E)
  have hsz2 : (tx (sg ++ A ++ [47])).size ≤ 31 := by
    rw [tx_size] at hsz1 ⊢
    rw [List.length_append, List.length_singleton]; omega
  have hs47 : (⟨#[47]⟩ : ByteArray).size = 1 := rfl
  have hs45 : (⟨#[45]⟩ : ByteArray).size = 1 := rfl
  have hs0 : (⟨#[]⟩ : ByteArray).size = 0 := rfl
  have c2 : tx (sg ++ A) ++ ⟨#[47]⟩ = tx (sg ++ A ++ [47]) := HS2.out
  have c3 := HS3.out
  have HR1 := Lib.hid (show r = true → tx (sg ++ A ++ [47] ++ E) = R from fun h => by
    rcases hr with ⟨_, h2⟩ | ⟨h2, _⟩
    · rw [HR.out, h2]; simp
    · rw [h] at h2; cases h2)
  have HR2 := Lib.hid (show r = false → tx (sg ++ A) = R from fun h => by
    rcases hr with ⟨h2, _⟩ | ⟨_, h2⟩
    · rw [h] at h2; cases h2
    · rw [HR.out, h2]; simp)
  have HC1 := Lib.hid (show (p = true → ⟨#[45]⟩ ++ tx A = tx (sg ++ A)) ∧ (p = false → ⟨#[]⟩ ++ tx A = tx (sg ++ A)) from by
    rcases hp with ⟨h, h2⟩ | ⟨h, h2⟩
    · exact ⟨fun _ => HSA.out [45] h2.symm, fun h3 => (by rw [h] at h3; cases h3)⟩
    · exact ⟨fun h3 => (by rw [h] at h3; cases h3), fun _ => HSA.out [] h2.symm⟩)
  generalize tx (sg ++ A ++ [47] ++ E) = S3 at *
  generalize tx (sg ++ A ++ [47]) = S2 at *
  generalize tx (sg ++ A) = S1 at *
  generalize tx A = SA at *
  generalize tx E = SE at *
  clear HSA HS2 HS3 HR hp hr
  cases p with
  | true =>
    have c1 := HC1.out.1 rfl
    clear HC1
    cases r with
    | true =>
      have hR := HR1.out rfl
      subst hR
      clear HR1 HR2
      go_enter Tryz.func138, Tryz.ntmps138
      go_wp2_with fail
      refine (HG.out _).mono ?_
      rintro e4 w4 ⟨rfl, hb⟩
      have HB := Lib.hid hb
      clear hb
      go_wp2_with fail
      refine wp_region_later (by kernel_rfl) (by kernel_rfl) ?_
      repeat go_big_quiet_step (fail)
      refine wpQuiet_nil ?_
      rintro w2 ⟨⟨_, hb2⟩, rfl⟩
      replace HB := Lib.hid (HB.out.trans (hb2.mono HB.out.size))
      clear hb2
      go_wp2_with fail
      refine (HDQ.out _).mono ?_
      rintro e5 w5 ⟨rfl, rfl⟩
      go_wp2_with fail
      refine (HDE.out _).mono ?_
      rintro e6 w6 ⟨rfl, rfl⟩
      go_wp2_with fail
      go_ret
      exact ⟨rfl, HB.out⟩
    | false =>
      have hR := HR2.out rfl
      subst hR
      clear HR1 HR2
      go_enter Tryz.func138, Tryz.ntmps138
      go_wp2_with fail
      refine (HG.out _).mono ?_
      rintro e4 w4 ⟨rfl, hb⟩
      have HB := Lib.hid hb
      clear hb
      go_wp2_with fail
      refine wp_region_later (by kernel_rfl) (by kernel_rfl) ?_
      repeat go_big_quiet_step (fail)
      refine wpQuiet_nil ?_
      rintro w2 ⟨⟨_, hb2⟩, rfl⟩
      replace HB := Lib.hid (HB.out.trans (hb2.mono HB.out.size))
      clear hb2
      go_wp2_with fail
      refine (HDQ.out _).mono ?_
      rintro e5 w5 ⟨rfl, rfl⟩
      go_wp2_with fail
      go_ret
      exact ⟨rfl, HB.out⟩
  | false =>
    have c1 := HC1.out.2 rfl
    clear HC1
    cases r with
    | true =>
      have hR := HR1.out rfl
      subst hR
      clear HR1 HR2
      go_enter Tryz.func138, Tryz.ntmps138
      go_wp2_with fail
      refine (HG.out _).mono ?_
      rintro e4 w4 ⟨rfl, hb⟩
      have HB := Lib.hid hb
      clear hb
      go_wp2_with fail
      refine wp_region_later (by kernel_rfl) (by kernel_rfl) ?_
      repeat go_big_quiet_step (fail)
      refine wpQuiet_nil ?_
      rintro w2 ⟨⟨_, hb2⟩, rfl⟩
      replace HB := Lib.hid (HB.out.trans (hb2.mono HB.out.size))
      clear hb2
      go_wp2_with fail
      refine (HDQ.out _).mono ?_
      rintro e5 w5 ⟨rfl, rfl⟩
      go_wp2_with fail
      refine (HDE.out _).mono ?_
      rintro e6 w6 ⟨rfl, rfl⟩
      go_wp2_with fail
      go_ret
      exact ⟨rfl, HB.out⟩
    | false =>
      have hR := HR2.out rfl
      subst hR
      clear HR1 HR2
      go_enter Tryz.func138, Tryz.ntmps138
      go_wp2_with fail
      refine (HG.out _).mono ?_
      rintro e4 w4 ⟨rfl, hb⟩
      have HB := Lib.hid hb
      clear hb
      go_wp2_with fail
      refine wp_region_later (by kernel_rfl) (by kernel_rfl) ?_
      repeat go_big_quiet_step (fail)
      refine wpQuiet_nil ?_
      rintro w2 ⟨⟨_, hb2⟩, rfl⟩
      replace HB := Lib.hid (HB.out.trans (hb2.mono HB.out.size))
      clear hb2
      go_wp2_with fail
      refine (HDQ.out _).mono ?_
      rintro e5 w5 ⟨rfl, rfl⟩
      go_wp2_with fail
      go_ret
      exact ⟨rfl, HB.out⟩
end Go.Proofs.YtflchbejjofppaaGreatDoor.Nu
/- Walks: the reference's Sign, Neg. -/
namespace Go.Proofs.YtflchbejjofppaaGreatDoor.Nu
open Go Go.Proofs Go.RowKit Go.Proofs.YtflchbejjofppaaGreatDoor
theorem sgn_neg {q : Rat} (h : q < 0) : q.num.sign = -1 := by
  have := Rat.num_nonneg (q := q)
  exact Int.sign_eq_neg_one_of_neg (by grind)
theorem sgn_pos {q : Rat} (h : 0 < q) : q.num.sign = 1 := by
  have h1 := Rat.num_nonneg (q := q)
  have h2 : q.num ≠ 0 := fun e => by
    have := Rat.num_eq_zero.1 e
    grind
  exact Int.sign_eq_one_of_pos (by grind)
set_option maxRecDepth 100000 in
set_option maxHeartbeats 1000000 in
theorem rsign26 (w : World) (q : Rat) (hl : (ratL q).length ≤ 1000000000) : Calls Tryz.prog 26 #[.string (txq q)] w fun e w' => e = .returned (.int .i64 q.num.sign) ∧ w = w' := by
  have hsz : (txq q).size = (ratL q).length := tx_size _
  have hlt : 0 < (ratL q).length := List.length_pos_iff.2 (ratL_ne q)
  have hi : ∀ (w : World), (Instr.index 37 (.string (txq q)) (.int .i64 0)).run Tryz.prog w = .ok (.int .u8 ((ratL q)[0].toNat : Int)) w := fun w => run_idx (P := Tryz.prog) (t := 37) Tryz.underlying37 _ 0 hlt w
  have hway : (((txq q).toList == [48]) = true ∧ q.num.sign = 0) ∨ (((txq q).toList == [48]) = false ∧ (((ratL q)[0].toNat : Int) == 45) = true ∧ q.num.sign = -1) ∨ (((txq q).toList == [48]) = false ∧ (((ratL q)[0].toNat : Int) == 45) = false ∧ q.num.sign = 1) := by
    unfold txq
    rw [tx_beq]
    by_cases h0 : q = 0
    · subst h0
      exact .inl ⟨decide_eq_true ratL_zero, rfl⟩
    · have h1 : decide (ratL q = [48]) = false := decide_eq_false (fun h => h0 (ratL_eq_zero.1 h))
      have hh : (ratL q).head? = some (ratL q)[0] := by rw [List.head?_eq_getElem?, List.getElem?_eq_getElem hlt]
      by_cases hn : q < 0
      · refine .inr (.inl ⟨h1, ?_, sgn_neg hn⟩)
        have : (ratL q)[0] = 45 := by
          have e : (ratL q).head? = some 45 := by rw [ratL_neg hn]; rfl
          rw [hh] at e
          injection e
        rw [this]; rfl
      · refine .inr (.inr ⟨h1, ?_, sgn_pos (by grind)⟩)
        refine beq_eq_false_iff_ne.2 (fun e => ?_)
        have h2 := ratL_head (q := q) (by grind)
        rw [hh] at h2
        exact h2 (congrArg some (UInt8.toNat_inj.1 (by rw [show (45 : UInt8).toNat = 45 from rfl]; omega)))
  generalize ((ratL q)[0].toNat : Int) = c at *
  generalize (ratL q).length = n at *
  generalize txq q = X at *
  generalize q.num.sign = s at *
  rcases hway with ⟨d0, rfl⟩ | ⟨d0, d1, rfl⟩ | ⟨d0, d1, rfl⟩
  all_goals
    go_enter Tryz.func26, Tryz.ntmps26
    go_wp2_with fail
    go_ret
    exact ⟨rfl, rfl⟩
set_option maxRecDepth 100000 in
set_option maxHeartbeats 1000000 in
theorem rneg110 (w : World) (q : Rat) (hl : (ratL q).length ≤ 100000000) : Calls Tryz.prog 110 #[.string (txq q)] w fun e w' => e = .returned (.string (txq (-q))) ∧ w = w' := by
  have HS := Lib.hid (fun (w1 : World) => rsign26 w1 q (by omega))
  have hsz : (txq q).size = (ratL q).length := tx_size _
  have hlt : 0 < (ratL q).length := List.length_pos_iff.2 (ratL_ne q)
  have hway : (q.num.sign = -1 ∧ (txq q).extract 1 (ratL q).length = txq (-q)) ∨ (q.num.sign = 0 ∧ txq q = txq (-q)) ∨ (q.num.sign = 1 ∧ ⟨#[45]⟩ ++ txq q = txq (-q)) := by
    by_cases h0 : q = 0
    · subst h0; exact .inr (.inl ⟨rfl, by rw [show (-0 : Rat) = 0 by grind]⟩)
    · by_cases hn : q < 0
      · refine .inl ⟨sgn_neg hn, ?_⟩
        unfold txq
        rw [tx_extract, List.take_length, ratL_neg hn]; rfl
      · refine .inr (.inr ⟨sgn_pos (by grind), ?_⟩)
        unfold txq
        rw [ratL_neg (q := -q) (by grind), show - -q = q by grind]
        exact tx_app [45] _
  generalize (ratL q).length = n at *
  generalize txq q = X at *
  generalize txq (-q) = Y at *
  generalize q.num.sign = s at *
  have hs45 : (⟨#[45]⟩ : ByteArray).size = 1 := rfl
  rcases hway with ⟨rfl, hx⟩ | ⟨rfl, hx⟩ | ⟨rfl, hx⟩
  · go_enter Tryz.func110, Tryz.ntmps110
    go_wp2_with fail
    refine (HS.out _).mono ?_
    rintro e4 w4 ⟨rfl, rfl⟩
    go_wp2_with fail
    go_ret
    exact ⟨rfl, rfl⟩
  · subst hx
    go_enter Tryz.func110, Tryz.ntmps110
    go_wp2_with fail
    refine (HS.out _).mono ?_
    rintro e4 w4 ⟨rfl, rfl⟩
    go_wp2_with fail
    refine (HS.out _).mono ?_
    rintro e4 w4 ⟨rfl, rfl⟩
    go_wp2_with fail
    go_ret
    exact ⟨rfl, rfl⟩
  · go_enter Tryz.func110, Tryz.ntmps110
    go_wp2_with fail
    refine (HS.out _).mono ?_
    rintro e4 w4 ⟨rfl, rfl⟩
    go_wp2_with fail
    refine (HS.out _).mono ?_
    rintro e4 w4 ⟨rfl, rfl⟩
    go_wp2_with fail
    go_ret
    exact ⟨rfl, rfl⟩
end Go.Proofs.YtflchbejjofppaaGreatDoor.Nu
/- Walks: the reference's quick. -/
namespace Go.Proofs.YtflchbejjofppaaGreatDoor.Nu
open Go Go.Proofs Go.RowKit Go.Proofs.YtflchbejjofppaaGreatDoor
structure Qk (q : Rat) : Prop where
  num : q.num.natAbs < 1000000000
  den : q.den < 1000000000
def qbody (q : Rat) : List UInt8 := Lib.decDigits q.num.natAbs ++ fracT q.den
theorem ratL_body (q : Rat) : ratL q = (if q.num < 0 then 45 :: qbody q else qbody q) := by
  rw [ratL_eq]
  unfold qbody
  by_cases h : q.num < 0
  · rw [if_pos h, itoa_ng h]; rfl
  · rw [if_neg h, itoa_nn (Int.not_lt.1 h), toNat_abs (Int.not_lt.1 h)]
theorem qbody_slash (q : Rat) : slashL (qbody q) = (Lib.decDigits q.num.natAbs).length := by
  have hno : (47 : UInt8) ∉ Lib.decDigits q.num.natAbs := fun h => absurd (dec_dig _ _ h) (by decide)
  unfold qbody fracT
  by_cases h : q.den = 1
  · rw [if_pos h, List.append_nil, slash_no hno]
  · rw [if_neg h, slash_app hno]
set_option maxRecDepth 100000 in
set_option maxHeartbeats 4000000 in
theorem quick137_yes (w : World) (q : Rat) (hq : Qk q) : Calls Tryz.prog 137 #[.string (txq q)] w fun e w' => e = .returned (.tuple #[.int .i64 q.num, .int .i64 (q.den : Int), .bool true]) ∧ w = w' := by
  have hln : (Lib.decDigits q.num.natAbs).length ≤ 9 := (dec_len_le (by decide)).2 (by rw [show (10 : Nat) ^ 9 = 1000000000 by decide]; exact hq.num)
  have hld : (Lib.decDigits q.den).length ≤ 9 := (dec_len_le (by decide)).2 (by rw [show (10 : Nat) ^ 9 = 1000000000 by decide]; exact hq.den)
  have hln0 := dec_pos_len q.num.natAbs
  have hfr : (q.den = 1 ∧ fracT q.den = []) ∨ (fracT q.den = 47 :: Lib.decDigits q.den) := by
    unfold fracT
    by_cases h : q.den = 1
    · exact .inl ⟨h, if_pos h⟩
    · exact .inr (if_neg h)
  have hbl : (qbody q).length = (Lib.decDigits q.num.natAbs).length + (fracT q.den).length := by unfold qbody; rw [List.length_append]
  have hfl : (fracT q.den).length ≤ 10 := by rcases hfr with ⟨_, h⟩ | h <;> rw [h] <;> simp; omega
  have HSL := Lib.hid (fun (w1 : World) => (by
    have h := slash74 w1 (qbody q) (by omega)
    rwa [qbody_slash] at h : Calls Tryz.prog 74 #[.string (tx (qbody q))] w1 fun e w' => e = .returned (.int .i64 (((Lib.decDigits q.num.natAbs).length : Nat) : Int)) ∧ w1 = w'))
  have HVN := Lib.hid (fun (w1 : World) => (by
    have h := value132 w1 (Lib.decDigits q.num.natAbs) (by omega) (dec_dig _)
    rwa [dval_dec] at h : Calls Tryz.prog 132 #[.string (tx (Lib.decDigits q.num.natAbs))] w1 fun e w' => e = .returned (.int .i64 ((q.num.natAbs : Nat) : Int)) ∧ w1 = w'))
  have HVD := Lib.hid (fun (w1 : World) => (by
    have h := value132 w1 (Lib.decDigits q.den) (by omega) (dec_dig _)
    rwa [dval_dec] at h : Calls Tryz.prog 132 #[.string (tx (Lib.decDigits q.den))] w1 fun e w' => e = .returned (.int .i64 ((q.den : Nat) : Int)) ∧ w1 = w'))
  have hx1 : (tx (qbody q)).extract 0 (Lib.decDigits q.num.natAbs).length = tx (Lib.decDigits q.num.natAbs) := by
    rw [tx_extract]; unfold qbody; simp
  have hsb : (tx (qbody q)).size = (qbody q).length := tx_size _
  have hsg : (q.num < 0 ∧ txq q = tx (45 :: qbody q)) ∨ (0 ≤ q.num ∧ txq q = tx (qbody q)) := by
    have h := ratL_body q
    by_cases hn : q.num < 0
    · rw [if_pos hn] at h; exact .inl ⟨hn, by unfold txq; rw [h]⟩
    · rw [if_neg hn] at h; exact .inr ⟨Int.not_lt.1 hn, by unfold txq; rw [h]⟩
  have hb0 : 0 < (qbody q).length := by omega
  have hh0 : (qbody q).head? ≠ some 45 := by
    unfold qbody
    rw [hd_app (dec_ne _)]
    intro e
    exact dec_no45 _ (List.mem_of_mem_head? e)
  have hi0 : ∀ (w : World), (Instr.index 9 (.string (tx (qbody q))) (.int .i64 0)).run Tryz.prog w = .ok (.int .u8 ((qbody q)[0].toNat : Int)) w := fun w => run_idx (P := Tryz.prog) (t := 9) Tryz.underlying9 _ 0 hb0 w
  have hc0 : (((qbody q)[0].toNat : Int) == 45) = false := beq_eq_false_iff_ne.2 (fun e => by
    rw [List.head?_eq_getElem?, List.getElem?_eq_getElem hb0] at hh0
    exact hh0 (congrArg some (UInt8.toNat_inj.1 (by rw [show (45 : UInt8).toNat = 45 from rfl]; omega))))
  have hi1 : ∀ (w : World), (Instr.index 9 (.string (tx (45 :: qbody q))) (.int .i64 0)).run Tryz.prog w = .ok (.int .u8 45) w := fun w => run_idx (P := Tryz.prog) (t := 9) Tryz.underlying9 (45 :: qbody q) 0 (by simp) w
  have hx0 : (tx (45 :: qbody q)).extract 1 ((qbody q).length + 1) = tx (qbody q) := by
    rw [tx_extract]; simp
  have hs1 : (tx (45 :: qbody q)).size = (qbody q).length + 1 := tx_size _
  have hway : (q.den = 1 ∧ (Lib.decDigits q.num.natAbs).length = (qbody q).length) ∨ ((Lib.decDigits q.num.natAbs).length < (qbody q).length ∧ (tx (qbody q)).extract ((Lib.decDigits q.num.natAbs).length + 1) (qbody q).length = tx (Lib.decDigits q.den)) := by
    rcases hfr with ⟨h1, h2⟩ | h2
    · exact .inl ⟨h1, by rw [hbl, h2]; rfl⟩
    · refine .inr ⟨by rw [hbl, h2]; simp, ?_⟩
      rw [tx_extract, List.take_length]
      unfold qbody
      rw [h2, ← List.drop_drop]
      simp
  have hqn : (q.num < 0 → IntKind.i64.wrap (0 - (q.num.natAbs : Int)) = q.num) ∧ (q.num < 0 → IntKind.i64.wrap (-(q.num.natAbs : Int)) = q.num) ∧ (0 ≤ q.num → (q.num.natAbs : Int) = q.num) := by
    have := hq.num
    refine ⟨fun h => ?_, fun h => ?_, fun h => by omega⟩ <;> rw [IntWalk.i64_in _ (by omega)] <;> omega
  clear hfr hh0 hq
  obtain ⟨X, hX⟩ : ∃ X, txq q = X := ⟨_, rfl⟩
  rw [hX] at hsg ⊢
  clear hX
  generalize (qbody q)[0].toNat = c at *
  generalize tx (45 :: qbody q) = X1 at *
  generalize (fracT q.den).length = fl at *
  generalize tx (qbody q) = B at *
  generalize (qbody q).length = n at *
  generalize tx (Lib.decDigits q.num.natAbs) = D at *
  generalize tx (Lib.decDigits q.den) = E at *
  generalize (Lib.decDigits q.num.natAbs).length = k at *
  generalize (Lib.decDigits q.den).length = el at *
  generalize q.den = d at *
  generalize q.num = z at *
  generalize z.natAbs = m at *
  have d1 : decide (20 < n) = false := decide_eq_false (by omega)
  have d2 : decide ((20 : Int) < (n : Int)) = false := decide_eq_false (by omega)
  have d3 : decide (20 < n + 1) = false := decide_eq_false (by omega)
  have d4 : decide ((20 : Int) < ((n + 1 : Nat) : Int)) = false := decide_eq_false (by omega)
  have d5 : decide (9 < k) = false := decide_eq_false (by omega)
  have d6 : decide ((9 : Int) < (k : Int)) = false := decide_eq_false (by omega)
  have k1 : IntKind.i64.wrap ((n : Int) - (k : Int)) = (n : Int) - (k : Int) := IntWalk.i64_in _ (by omega)
  have d7 : decide ((10 : Int) < (n : Int) - (k : Int)) = false := decide_eq_false (by omega)
  have k2 : IntKind.i64.wrap ((k : Int) + 1) = ((k + 1 : Nat) : Int) := by rw [IntWalk.i64_in _ (by omega)]; omega
  have hkn : k ≤ n := by omega
  have hnk : n - k ≤ 10 := by omega
  clear hbl hfl hld
  rcases hsg with ⟨hz, rfl⟩ | ⟨hz, rfl⟩
  · have HQ := Lib.hid (hqn.1 hz)
    have k3 := hqn.1 hz
    have k4 := hqn.2.1 hz
    clear hi0 hqn
    rcases hway with ⟨rfl, rfl⟩ | ⟨hlt, hx2⟩
    · go_enter Tryz.func137, Tryz.ntmps137
      go_wp2_with fail
      refine (HSL.out _).mono ?_
      rintro e4 w4 ⟨rfl, rfl⟩
      go_wp2_with fail
      refine (HVN.out _).mono ?_
      rintro e5 w5 ⟨rfl, rfl⟩
      go_wp2_with fail
      refine bodyPost_ret (v := .tuple #[.int .i64 z, .int .i64 1, .bool true]) (by simp [results, Tryz.results137, go_sem, *]) rfl ?_
      exact ⟨rfl, rfl⟩
    · go_enter Tryz.func137, Tryz.ntmps137
      go_wp2_with fail
      refine (HSL.out _).mono ?_
      rintro e4 w4 ⟨rfl, rfl⟩
      go_wp2_with fail
      refine (HVN.out _).mono ?_
      rintro e5 w5 ⟨rfl, rfl⟩
      go_wp2_with fail
      refine (HVD.out _).mono ?_
      rintro e6 w6 ⟨rfl, rfl⟩
      go_wp2_with fail
      refine bodyPost_ret (v := .tuple #[.int .i64 z, .int .i64 (d : Int), .bool true]) (by simp [results, Tryz.results137, go_sem, *]) rfl ?_
      exact ⟨rfl, rfl⟩
  · have hzz := hqn.2.2 hz
    have HZ := Lib.hid hzz
    clear hi1 hqn hzz
    rcases hway with ⟨rfl, rfl⟩ | ⟨hlt, hx2⟩
    · go_enter Tryz.func137, Tryz.ntmps137
      go_wp2_with fail
      refine (HSL.out _).mono ?_
      rintro e4 w4 ⟨rfl, rfl⟩
      go_wp2_with fail
      refine (HVN.out _).mono ?_
      rintro e5 w5 ⟨rfl, rfl⟩
      go_wp2_with fail
      refine bodyPost_ret (v := .tuple #[.int .i64 (m : Int), .int .i64 1, .bool true]) (by simp [results, Tryz.results137, go_sem, *]) rfl ?_
      exact ⟨by rw [HZ.out]; rfl, rfl⟩
    · go_enter Tryz.func137, Tryz.ntmps137
      go_wp2_with fail
      refine (HSL.out _).mono ?_
      rintro e4 w4 ⟨rfl, rfl⟩
      go_wp2_with fail
      refine (HVN.out _).mono ?_
      rintro e5 w5 ⟨rfl, rfl⟩
      go_wp2_with fail
      refine (HVD.out _).mono ?_
      rintro e6 w6 ⟨rfl, rfl⟩
      go_wp2_with fail
      refine bodyPost_ret (v := .tuple #[.int .i64 (m : Int), .int .i64 (d : Int), .bool true]) (by simp [results, Tryz.results137, go_sem, *]) rfl ?_
      exact ⟨by rw [HZ.out], rfl⟩
end Go.Proofs.YtflchbejjofppaaGreatDoor.Nu
/- Walks: the reference's digit, compareDigits. -/
namespace Go.Proofs.YtflchbejjofppaaGreatDoor.Nu
open Go Go.Proofs Go.RowKit Go.Proofs.YtflchbejjofppaaGreatDoor
structure DlR (w : World) (v : Value) (l : List Nat) (m : Nat) : Prop where
  sc : Sc encD 1 w w.heap.size v l
  dg : Dg 1000000000 l
  tr : Tr l
  eq : val 1000000000 l = m
theorem DlR.later {w w' : World} {v : Value} {l : List Nat} {m : Nat} (h : DlR w v l m) (hb : Below w.heap.size w w') : DlR w' v l m := ⟨h.sc.later hb, h.dg, h.tr, h.eq⟩
def RetDl (w : World) (m : Nat) (e : Ending) (w' : World) : Prop := ∃ a n c l, e = .returned (.slice a n c) ∧ DlR w' (.slice a n c) l m ∧ Below w.heap.size w w'
theorem cellD {w : World} {b o x : Nat} (h : At w b o (encD x)) : w.cell? ⟨b, o, none⟩ = some (.int .i64 (x : Int)) := h.c1
set_option maxRecDepth 100000 in
theorem digit186 (w : World) (a : Option Addr) (n c : Nat) (l : List Nat) (h : Sc encD 1 w w.heap.size (.slice a n c) l) (i : Nat) (hi : i ≤ 1000000000) : Calls Tryz.prog 186 #[.slice a n c, .int .i64 (i : Int)] w fun e w' => e = .returned (.int .i64 ((dig l i : Nat) : Int)) ∧ w = w' := by
  obtain ⟨a', c', e, hl, hl', hA⟩ := h
  injection e with e1 e2 e3
  subst e1 e2 e3
  obtain ⟨R, hR⟩ : ∃ R, dig l i = R := ⟨_, rfl⟩
  rw [hR]
  by_cases h0 : i < l.length
  · obtain ⟨b, off, rfl, hbb, hcells⟩ := hA (by omega)
    have g1 := cellD (hcells i h0)
    rw [← dig_lt_len h0, hR, Nat.mul_one] at g1
    have k1 : decide ((i : Int) < (l.length : Int)) = true := decide_eq_true (by omega)
    have k1' : decide (i < l.length) = true := decide_eq_true h0
    have k3 : decide ((l.length : Int) ≤ (i : Int)) = false := decide_eq_false (by omega)
    clear hcells hA hR
    generalize l.length = N at *
    go_enter Tryz.func186, Tryz.ntmps186
    go_wp2_with fail
    go_ret
    exact ⟨rfl, rfl⟩
  · rw [dig_ge (by omega)] at hR
    subst hR
    have k1 : decide ((i : Int) < (l.length : Int)) = false := decide_eq_false (by omega)
    have k1' : decide (i < l.length) = false := decide_eq_false h0
    clear hA h0
    generalize l.length = N at *
    go_enter Tryz.func186, Tryz.ntmps186
    go_wp2_with fail
    go_ret
    exact ⟨rfl, rfl⟩
set_option maxRecDepth 100000 in
set_option maxHeartbeats 1000000 in
theorem compare133 (w : World) (a1 a2 : Option Addr) (n1 n2 c1 c2 : Nat) (l1 l2 : List Nat) (m1 m2 : Nat) (h1 : DlR w (.slice a1 n1 c1) l1 m1) (h2 : DlR w (.slice a2 n2 c2) l2 m2) : Calls Tryz.prog 133 #[.slice a1 n1 c1, .slice a2 n2 c2] w (Ret (.int .i64 (icmp m1 m2)) w) := by
  obtain ⟨⟨a1', c1', e, hl1, hl1', hA1⟩, hd1, ht1, hv1⟩ := h1
  injection e with e1 e2 e3
  subst e1 e2 e3
  obtain ⟨⟨a2', c2', e, hl2, hl2', hA2⟩, hd2, ht2, hv2⟩ := h2
  injection e with e1 e2 e3
  subst e1 e2 e3
  have HA1 := Lib.hid hA1
  have HA2 := Lib.hid hA2
  obtain ⟨R, hR⟩ : ∃ R, icmp m1 m2 = R := ⟨_, rfl⟩
  rw [hR]
  have HLT := Lib.hid (show val 1000000000 l1 < val 1000000000 l2 → R = -1 from fun h => by rw [← hR]; unfold icmp; rw [if_pos (by omega)])
  have HGT := Lib.hid (show val 1000000000 l2 < val 1000000000 l1 → R = 1 from fun h => by rw [← hR]; unfold icmp; rw [if_neg (by omega), if_pos (by omega)])
  have HEQ := Lib.hid (show val 1000000000 l1 = val 1000000000 l2 → R = 0 from fun h => by rw [← hR]; unfold icmp; rw [if_neg (by omega), if_neg (by omega)])
  have HD1 := Lib.hid hd1
  have HD2 := Lib.hid hd2
  have HLA := Lib.hid (fun (h : l1.length < l2.length) => val_lt_len (B := 1000000000) (by decide) hd1 ht2 h)
  have HLB := Lib.hid (fun (h : l2.length < l1.length) => val_lt_len (B := 1000000000) (by decide) hd2 ht1 h)
  obtain ⟨N, hN⟩ : ∃ N, l1.length = N := ⟨_, rfl⟩
  obtain ⟨M, hM⟩ : ∃ M, l2.length = M := ⟨_, rfl⟩
  have HN := Lib.hid hN
  have HM := Lib.hid hM
  rw [hN] at hl1 hl1' HLA HLB ⊢
  rw [hM] at hl2 hl2' HLA HLB ⊢
  clear hA1 hA2 hN hM hR hv1 hv2 hd1 hd2 ht1 ht2
  by_cases h0 : N = M
  rotate_left
  · have k0 : ((N : Int) != (M : Int)) = true := bne_iff_ne.2 (by omega)
    by_cases h1 : N < M
    · have k1 : decide ((N : Int) < (M : Int)) = true := decide_eq_true (by omega)
      have k1' : decide (N < M) = true := decide_eq_true (by omega)
      have HV := Lib.hid (HLT.out (HLA.out h1))
      clear h0 h1
      go_enter Tryz.func133, Tryz.ntmps133
      go_wp2_with fail
      go_ret
      exact ⟨by rw [HV.out]; rfl, Below.refl _ _⟩
    · have k1 : decide ((N : Int) < (M : Int)) = false := decide_eq_false (by omega)
      have k1' : decide (N < M) = false := decide_eq_false (by omega)
      have HV := Lib.hid (HGT.out (HLB.out (by omega)))
      clear h0 h1
      go_enter Tryz.func133, Tryz.ntmps133
      go_wp2_with fail
      go_ret
      exact ⟨by rw [HV.out]; rfl, Below.refl _ _⟩
  subst h0
  have k0 : IntKind.i64.wrap ((N : Int) - 1) = (N : Int) - 1 := IntWalk.i64_in _ (by omega)
  have k00 : ((N : Int) != (N : Int)) = false := by simp
  go_enter Tryz.func133, Tryz.ntmps133
  go_wp2_with fail
  go_loopw [5] (fun i wr => ∃ k : Nat, k ≤ N ∧ i = .int .i64 ((k : Int) - 1) ∧ l1.drop k = l2.drop k ∧ Below w.heap.size w wr) (fun i _ => (intOf i + 1).toNat)
  case atStart => exact ⟨N, Nat.le_refl _, rfl, by rw [List.drop_of_length_le (by rw [HN.out]; omega), List.drop_of_length_le (by rw [HM.out]; omega)], Below.refl _ _⟩
  case round =>
    obtain ⟨k, hk, rfl, hz, hbe⟩ := hrel
    have HZ := Lib.hid hz
    have HB := Lib.hid hbe
    clear hz hbe k0 k00
    by_cases h0 : k = 0
    · subst h0
      have HV := Lib.hid (HEQ.out (by have := HZ.out; simp only [List.drop_zero] at this; rw [this]))
      go_wp2_with fail
      go_ret
      exact ⟨by rw [HV.out]; rfl, HB.out⟩
    · obtain ⟨j, rfl⟩ : ∃ j, k = j + 1 := ⟨k - 1, by omega⟩
      have hj1 : j < l1.length := by rw [HN.out]; omega
      have hj2 : j < l2.length := by rw [HM.out]; omega
      obtain ⟨b1, off1, rfl, hbb1, hcells1⟩ := HA1.out (by omega)
      obtain ⟨b2, off2, rfl, hbb2, hcells2⟩ := HA2.out (by omega)
      have g1 := ((hcells1 j hj1).below HB.out hbb1).c1
      have g2 := ((hcells2 j hj2).below HB.out hbb2).c1
      rw [Nat.mul_one] at g1 g2
      have hz1 : b1 < wr.heap.size := by have := HB.out.size; omega
      have hz2 : b2 < wr.heap.size := by have := HB.out.size; omega
      have HC1 := Lib.hid (fun h => val_lt_at (B := 1000000000) HD1.out (by rw [HN.out, HM.out]) j hj1 HZ.out h)
      have HC2 := Lib.hid (fun h => val_lt_at (B := 1000000000) HD2.out (by rw [HN.out, HM.out]) j hj2 HZ.out.symm h)
      have HDR := Lib.hid (show l1[j] = l2[j] → l1.drop j = l2.drop j from fun h => by rw [List.drop_eq_getElem_cons hj1, List.drop_eq_getElem_cons hj2, h, HZ.out])
      clear hcells1 hcells2
      generalize l1[j] = x at *
      generalize l2[j] = y at *
      have k1 : IntKind.i64.wrap ((j : Int) - 1) = (j : Int) - 1 := IntWalk.i64_in _ (by omega)
      have k5 : (((j + 1 : Nat) : Int) - 1) = (j : Int) := by omega
      rw [k5]
      have k2 : decide ((0 : Int) ≤ (j : Int)) = true := decide_eq_true (by omega)
      have k2' : decide (0 ≤ j) = true := decide_eq_true (by omega)
      have k3 : decide (((N : Nat) : Int) ≤ (j : Int)) = false := decide_eq_false (by omega)
      rcases Nat.lt_trichotomy x y with hx | hx | hx
      · have k6 : decide ((x : Int) < (y : Int)) = true := decide_eq_true (by omega)
        have k6' : decide (x < y) = true := decide_eq_true (by omega)
        have HV := Lib.hid (HLT.out (HC1.out hx))
        clear hx h0
        go_wp2_with fail
        go_quiet (fail)
        go_wp2_with fail
        go_ret
        exact ⟨by rw [HV.out]; rfl, below_drewN HB.out _⟩
      · subst hx
        have k6 : decide ((x : Int) < (x : Int)) = false := decide_eq_false (by omega)
        have k6' : decide (x < x) = false := decide_eq_false (by omega)
        have HV := Lib.hid (HDR.out rfl)
        clear h0
        go_wp2_with fail
        go_quiet (fail)
        go_wp2_with fail
        go_quiet (fail)
        go_wp2_with fail
        go_roundw
        case rel => exact ⟨j, by omega, by go_num, HV.out, by first | exact below_drewN HB.out _ | exact below_drewN (below_drewN HB.out _) _⟩
        case measure => simp [intOf]; try omega
      · have k6 : decide ((x : Int) < (y : Int)) = false := decide_eq_false (by omega)
        have k6' : decide (x < y) = false := decide_eq_false (by omega)
        have k7 : decide ((y : Int) < (x : Int)) = true := decide_eq_true (by omega)
        have k7' : decide (y < x) = true := decide_eq_true (by omega)
        have HV := Lib.hid (HGT.out (HC2.out hx))
        clear hx h0
        go_wp2_with fail
        go_quiet (fail)
        go_wp2_with fail
        go_quiet (fail)
        go_wp2_with fail
        go_ret
        exact ⟨by rw [HV.out]; rfl, by first | exact below_drewN HB.out _ | exact below_drewN (below_drewN HB.out _) _⟩
end Go.Proofs.YtflchbejjofppaaGreatDoor.Nu
/- Walks: the reference's addDigits. -/
namespace Go.Proofs.YtflchbejjofppaaGreatDoor.Nu
open Go Go.Proofs Go.RowKit Go.Proofs.YtflchbejjofppaaGreatDoor
structure DzR (w : World) (v : Value) (l : List Nat) (m : Nat) : Prop where
  sc : Sc encD 1 w w.heap.size v l
  dg : Dg 1000000000 l
  eq : val 1000000000 l = m
theorem DzR.later {w w' : World} {v : Value} {l : List Nat} {m : Nat} (h : DzR w v l m) (hb : Below w.heap.size w w') : DzR w' v l m := ⟨h.sc.later hb, h.dg, h.eq⟩
def RetDz (w : World) (m : Nat) (e : Ending) (w' : World) : Prop := ∃ a n c l, e = .returned (.slice a n c) ∧ DzR w' (.slice a n c) l m ∧ Below w.heap.size w w'
set_option maxRecDepth 100000 in
set_option maxHeartbeats 1000000 in
theorem add160 (w : World) (a1 a2 : Option Addr) (n1 n2 c1 c2 : Nat) (l1 l2 : List Nat) (m1 m2 : Nat) (h1 : DlR w (.slice a1 n1 c1) l1 m1) (h2 : DlR w (.slice a2 n2 c2) l2 m2) (hb1 : l1.length ≤ 900000) (hb2 : l2.length ≤ 900000) :
    Calls Tryz.prog 160 #[.slice a1 n1 c1, .slice a2 n2 c2] w (RetDz w (m1 + m2)) := by
  have HD1 := Lib.hid h1.dg
  have HD2 := Lib.hid h2.dg
  have HC1 := Lib.hid (fun (w1 : World) (hb : Below w.heap.size w w1) (i : Nat) (hi : i ≤ 1000000000) => digit186 w1 a1 n1 c1 l1 (h1.sc.later hb) i hi)
  have HC2 := Lib.hid (fun (w1 : World) (hb : Below w.heap.size w w1) (i : Nat) (hi : i ≤ 1000000000) => digit186 w1 a2 n2 c2 l2 (h2.sc.later hb) i hi)
  have e1 := h1.eq
  have e2 := h2.eq
  have HS := Lib.hid (show val 1000000000 l1 + val 1000000000 l2 = m1 + m2 by omega)
  obtain ⟨a1', c1', e, hl1, hl1', _⟩ := h1.sc
  injection e with f0 f1 f2
  obtain ⟨a2', c2', e, hl2, hl2', _⟩ := h2.sc
  injection e with f3 f4 f5
  subst f0 f1 f2 f3 f4 f5
  obtain ⟨S, hS⟩ : ∃ S, m1 + m2 = S := ⟨_, rfl⟩
  rw [hS] at HS ⊢
  obtain ⟨N, hN⟩ : ∃ N, l1.length = N := ⟨_, rfl⟩
  obtain ⟨M, hM⟩ : ∃ M, l2.length = M := ⟨_, rfl⟩
  have HN := Lib.hid hN
  have HM := Lib.hid hM
  rw [hN] at hb1 HC1 ⊢
  rw [hM] at hb2 HC2 ⊢
  clear hN hM hS e1 e2 hl1 hl2 hl1' hl2' h1 h2
  go_enter Tryz.func160, Tryz.ntmps160
  go_wp2_with fail
  go_loopw [5, 6, 7] (fun o cr i wr => ∃ (k c : Nat) (d : List Nat) (v : Value), v = o ∧ k ≤ max N M + 1 ∧ (k = max N M + 1 → c = 0) ∧ i = .int .i64 k ∧ cr = .int .i64 (c : Int) ∧ AddI 1000000000 l1 l2 d c k ∧ Below w.heap.size w wr ∧ Own encD 1 3 wr w.heap.size v d) (fun _ _ i _ => max N M + 1 - (intOf i).toNat)
  case atStart => exact ⟨0, 0, [], _, rfl, Nat.zero_le _, by omega, rfl, rfl, AddI.start _ _ _, Below.refl _ _, Own.nil _ _ _ _ _⟩
  case round =>
    obtain ⟨k, c, d, v, rfl, hk, hkc, rfl, rfl, hai, hbe, hown⟩ := hrel
    have HAI := Lib.hid hai
    have HB := Lib.hid hbe
    have HO := Lib.hid hown
    have hc1 := hai.carry
    have hdl := hai.len
    have HCX := Lib.hid (HC1.out wr HB.out k (by omega))
    have HCY := Lib.hid (HC2.out wr HB.out k (by omega))
    clear hai hown hbe
    by_cases hgo : k < N ∨ k < M ∨ 0 < c
    · have HSTEP := Lib.hid (HAI.out.step (by decide) HD1.out HD2.out rfl)
      have hx := HD1.out.dig (by decide) k
      have hy := HD2.out.dig (by decide) k
      have HLAST := Lib.hid (show max N M ≤ k → dig l1 k = 0 ∧ dig l2 k = 0 from fun h => ⟨dig_ge (by rw [HN.out]; omega), dig_ge (by rw [HM.out]; omega)⟩)
      have hlast : k + 1 = max N M + 1 → (dig l1 k + dig l2 k + c) / 1000000000 = 0 := fun h => by
        obtain ⟨u1, u2⟩ := HLAST.out (by omega)
        rw [u1, u2]; omega
      have hkm : k + 1 ≤ max N M + 1 := by omega
      generalize dig l1 k = x at *
      generalize dig l2 k = y at *
      obtain ⟨u, hu⟩ : ∃ u, x + y = u := ⟨_, rfl⟩
      have kx : IntKind.i64.wrap ((x : Int) + (y : Int)) = (u : Int) := by rw [IntWalk.i64_in _ (by omega)]; omega
      obtain ⟨s, hs⟩ : ∃ s, x + y + c = s := ⟨_, rfl⟩
      have ky : IntKind.i64.wrap ((u : Int) + (c : Int)) = (s : Int) := by rw [IntWalk.i64_in _ (by omega)]; omega
      rw [hs] at HSTEP hlast
      have hs9 : s < 2000000000 := by omega
      have km : (s : Int).tmod 1000000000 = ((s % 1000000000 : Nat) : Int) := by rw [Int.tmod_eq_emod_of_nonneg (by omega)]; omega
      have kd : (s : Int).tdiv 1000000000 = ((s / 1000000000 : Nat) : Int) := by rw [Int.tdiv_eq_ediv_of_nonneg (by omega)]; omega
      have hdd : s % 1000000000 < 1000000000 := Nat.mod_lt _ (by decide)
      have hqq : s / 1000000000 ≤ 2 := by omega
      generalize s % 1000000000 = dd at *
      generalize s / 1000000000 = q at *
      have kq : IntKind.i64.wrap ((q : Nat) : Int) = (q : Int) := IntWalk.i64_in _ (by omega)
      have kk : IntKind.i64.wrap ((k : Int) + 1) = ((k + 1 : Nat) : Int) := by rw [IntWalk.i64_in _ (by omega)]; omega
      have HLAST2 := Lib.hid hlast
      have HKM := Lib.hid hkm
      have HBA := Lib.hid (HB.out.alloc HB.out.size (.cells #[.int .i64 (dd : Int)] 3))
      have HOA := Lib.hid (HO.out.alloc (.cells #[.int .i64 (dd : Int)] 3))
      have HSZ := Lib.hid (show w.heap.size ≤ (wr.alloc (.cells #[.int .i64 (dd : Int)] 3)).heap.size by have := HB.out.size; simp; omega)
      have HLE := Lib.hid (show d.length ≤ 1000000 by omega)
      have HRH := Lib.hid (Box.new wr #[.int .i64 (dd : Int)] 3)
      clear hlast hkm hkc hs hu hs9 hx hy hdl HLAST
      have hways : (∃ d1 d2 d3 : Bool, decide (k < N) = d1 ∧ (d1 = false → decide (k < M) = d2) ∧ (d1 = false → d2 = false → decide (0 < c) = d3) ∧ (d1 = true ∨ d2 = true ∨ d3 = true)) := ⟨_, _, _, rfl, fun _ => rfl, fun _ _ => rfl, by
        rcases hgo with h | h | h
        · exact .inl (decide_eq_true (by omega))
        · exact .inr (.inl (decide_eq_true (by omega)))
        · exact .inr (.inr (decide_eq_true (by omega)))⟩
      obtain ⟨d1, d2, d3, g1, g2, g3, hor⟩ := hways
      clear hgo
      cases d1 with
      | true =>
        clear g2 g3 hor
        go_wp2_with fail
        refine HCX.out.mono ?_
        rintro e4 w4 ⟨rfl, rfl⟩
        go_wp2_with fail
        refine HCY.out.mono ?_
        rintro e5 w5 ⟨rfl, rfl⟩
        go_wp2_with (at_builtin; (refine wpList_pushB encD 1 8 26 3 _ Tryz.underlying26 infoD rfl (by decide) (by decide) encD_len encD_one d dd w.heap.size _ _ _ _ HRH.out rfl _ HOA.out HSZ.out HLE.out rfl _ _ rfl rfl rfl ?_); intro v' w' hown' hg')
        go_roundw
        case rel => exact ⟨k + 1, q, _, v', rfl, HKM.out, HLAST2.out, rfl, rfl, HSTEP.out, HBA.out.grown hg' HBA.out.size (fun j hj => HOA.out.lt' j hj), hown'⟩
        case measure => have := HKM.out; simp only [intOf]; omega
      | false =>
        replace g2 := g2 rfl
        replace g3 := g3 rfl
        cases d2 with
        | true =>
          clear g3 hor
          go_wp2_with fail
          refine HCX.out.mono ?_
          rintro e4 w4 ⟨rfl, rfl⟩
          go_wp2_with fail
          refine HCY.out.mono ?_
          rintro e5 w5 ⟨rfl, rfl⟩
          go_wp2_with (at_builtin; (refine wpList_pushB encD 1 8 26 3 _ Tryz.underlying26 infoD rfl (by decide) (by decide) encD_len encD_one d dd w.heap.size _ _ _ _ HRH.out rfl _ HOA.out HSZ.out HLE.out rfl _ _ rfl rfl rfl ?_); intro v' w' hown' hg')
          go_roundw
          case rel => exact ⟨k + 1, q, _, v', rfl, HKM.out, HLAST2.out, rfl, rfl, HSTEP.out, HBA.out.grown hg' HBA.out.size (fun j hj => HOA.out.lt' j hj), hown'⟩
          case measure => have := HKM.out; simp only [intOf]; omega
        | false =>
          replace g3 := g3 rfl
          obtain rfl : d3 = true := by simpa using hor
          clear hor
          go_wp2_with fail
          refine HCX.out.mono ?_
          rintro e4 w4 ⟨rfl, rfl⟩
          go_wp2_with fail
          refine HCY.out.mono ?_
          rintro e5 w5 ⟨rfl, rfl⟩
          go_wp2_with (at_builtin; (refine wpList_pushB encD 1 8 26 3 _ Tryz.underlying26 infoD rfl (by decide) (by decide) encD_len encD_one d dd w.heap.size _ _ _ _ HRH.out rfl _ HOA.out HSZ.out HLE.out rfl _ _ rfl rfl rfl ?_); intro v' w' hown' hg')
          go_roundw
          case rel => exact ⟨k + 1, q, _, v', rfl, HKM.out, HLAST2.out, rfl, rfl, HSTEP.out, HBA.out.grown hg' HBA.out.size (fun j hj => HOA.out.lt' j hj), hown'⟩
          case measure => have := HKM.out; simp only [intOf]; omega
    · have hk1 : N ≤ k := by omega
      have hk2 : M ≤ k := by omega
      obtain rfl : c = 0 := by omega
      have HV := Lib.hid (show val 1000000000 d = S by
        have h := HAI.out.eq
        rw [List.take_of_length_le (by rw [HN.out]; omega), List.take_of_length_le (by rw [HM.out]; omega), HS.out] at h
        simpa using h)
      have HDG := Lib.hid HAI.out.dg
      have g1 : decide (k < N) = false := decide_eq_false (by omega)
      have g2 : decide (k < M) = false := decide_eq_false (by omega)
      have g3 : decide (0 < 0) = false := by decide
      have hlk : d.length = k := hdl
      obtain ⟨aa, nn, cc, hsh⟩ : ∃ aa nn cc, v = .slice aa nn cc := by obtain ⟨aa, cc, e, _⟩ := (Sc.of_own encD_len (by omega) HO.out).shape; exact ⟨aa, _, cc, e⟩
      subst hsh
      have HSC := Lib.hid (Sc.of_own encD_len (by omega) HO.out)
      clear hgo hk1 hk2 hkc HCX HCY
      go_wp2_with fail
      go_ret
      exact ⟨_, _, _, _, rfl, ⟨HSC.out, HDG.out, HV.out⟩, HB.out⟩
end Go.Proofs.YtflchbejjofppaaGreatDoor.Nu
