/- Lemmas on the way to the law TopOneGrain (part 4): YAg YAj -/
import Derived.Test.YtpafjhjpchdcdaaGreatDoorTopOneGrainP03
set_option linter.unusedVariables false
set_option linter.unusedSimpArgs false

/- Walks: ref.CheckPlant. -/
namespace Go.Proofs.YtpafjhjpchdcdaaGreatDoor
open Go Go.Proofs Go.RowKit Go.Shelf
theorem kn_w0 (s : ByteArray) : decide (kn s = 0) = isW s 0 := by
  rw [kn_eq]
  cases h0 : isW s 0
  · simp only [Bool.false_eq_true, if_false]
    generalize isW s 1 = b1
    generalize isW s 2 = b2
    generalize isW s 3 = b3
    generalize isW s 4 = b4
    generalize isW s 5 = b5
    generalize isW s 6 = b6
    generalize isW s 7 = b7
    revert b1 b2 b3 b4 b5 b6 b7
    decide
  · rfl
theorem kn_w2 (s : ByteArray) : decide (kn s = 2) = isW s 2 := by
  cases h2 : isW s 2
  · rw [kn_eq, h2]
    simp only [Bool.false_eq_true, if_false]
    generalize isW s 0 = b0
    generalize isW s 1 = b1
    generalize isW s 3 = b3
    generalize isW s 4 = b4
    generalize isW s 5 = b5
    generalize isW s 6 = b6
    generalize isW s 7 = b7
    revert b0 b1 b3 b4 b5 b6 b7
    decide
  · rw [kn_eq, isW_no (j := 0) (by decide) h2 (by decide) (by decide), isW_no (j := 1) (by decide) h2 (by decide) (by decide), h2]
    rfl
set_option maxRecDepth 100000 in
set_option maxHeartbeats 1000000 in
theorem ckPlant19 (w : World) (v1 v2 : Value) (p : Pl) (hv : PlR w w.heap.size v1 v2 p) : Calls Tryz.prog 13 #[.agg #[v1, v2]] w (Ret (.int .i64 (ckPlant p)) w) := by
  have HAR := Lib.hid hv.arcs
  obtain ⟨⟨a1, n1, rfl, hl1, hA1⟩, ⟨a2, n2, rfl, hl2, hA2⟩⟩ := hv
  have HA1 := Lib.hid hA1
  have HA2 := Lib.hid hA2
  clear hA1 hA2
  obtain ⟨h11, h12⟩ := hl1
  obtain ⟨h21, h22⟩ := hl2
  obtain ⟨R, hR⟩ : ∃ R, ckPlant p = R := ⟨_, rfl⟩
  rw [hR]
  unfold ckPlant at hR
  have HR := Lib.hid hR
  clear hR
  have HB := Lib.hid ((Below.refl w.heap.size w).alloc (Nat.le_refl _) (.cells #[.slice a1 p.ms.length n1, .slice a2 p.arcs.length n2] 25))
  have HX := Lib.hid (Box.new w #[.slice a1 p.ms.length n1, .slice a2 p.arcs.length n2] 25)
  obtain ⟨n, hn⟩ : ∃ n, p.ms.length = n := ⟨_, rfl⟩
  obtain ⟨m, hm⟩ : ∃ m, p.arcs.length = m := ⟨_, rfl⟩
  rw [hn] at HR HB HX h11 h12 ⊢
  rw [hm] at HR HB HX h21 h22 ⊢
  have HN := Lib.hid hn
  have HM := Lib.hid hm
  rw [hm] at HAR
  clear hn hm
  go_enter Tryz.func13, Tryz.ntmps13
  by_cases h0 : n = 0
  · subst h0
    have HV := Lib.hid (show R = 2 by rw [← HR.out]; rfl)
    go_wp2_with fail
    go_ret
    exact ⟨by rw [HV.out]; rfl, HB.out⟩
  have k0 : ((n : Int) == 0) = false := by simp; omega
  by_cases h64 : 64 < n
  · have HV := Lib.hid (show R = 5 by rw [← HR.out, if_neg h0, if_pos h64])
    have k1 : decide ((64 : Int) < (n : Int)) = true := decide_eq_true (by omega)
    go_wp2_with fail
    go_ret
    exact ⟨by rw [HV.out]; rfl, HB.out⟩
  have k1 : decide ((64 : Int) < (n : Int)) = false := decide_eq_false (by omega)
  obtain ⟨S, hS⟩ : ∃ S, ckMsL p.ms = S := ⟨_, rfl⟩
  have HR1 := Lib.hid (show (if S ≠ 0 then S else if 256 < m then 5 else ckArL p 0 p.arcs) = R by have h := HR.out; rw [if_neg h0, if_neg h64, hS] at h; exact h)
  have HS := Lib.hid hS
  clear HR hS
  go_wp2_with fail
  go_loopw [4] (fun j wr => ∃ k : Nat, k ≤ n ∧ j = .int .i64 k ∧ Below w.heap.size w wr ∧ Box wr w.heap.size 25 [.slice a1 n n1, .slice a2 m n2] ∧ ckMsL (p.ms.drop k) = S) (fun j _ => n - (intOf j).toNat)
  case atStart => exact ⟨0, by omega, rfl, HB.out, HX.out, HS.out⟩
  case round =>
    clear HB HX HS
    obtain ⟨k, hk, rfl, hbe, hx, hrel⟩ := hrel
    have HL := Lib.hid hrel
    have HBE := Lib.hid hbe
    have HXE := Lib.hid hx
    clear hrel
    obtain ⟨x0, x1, xf, xz⟩ := hx.v2
    by_cases hlt : k < n
    · have hkl : k < p.ms.length := by rw [HN.out]; exact hlt
      obtain ⟨b, off, rfl, hbb, hcells⟩ := HA1.out (by omega)
      obtain ⟨c0, c1⟩ := ((hcells k hkl).below hbe hbb).c2
      have hbz : b < wr.heap.size := by have := hbe.size; omega
      have hd := Lib.hid (ckMsL_drop p.ms k hkl)
      clear hcells hbe hx
      generalize p.ms[k] = mc at *
      obtain ⟨s, t⟩ := mc
      dsimp only at c0 c1
      have hba : Below wr.heap.size wr (wr.alloc (.cells #[.string s, .int .i64 t] 43)) := (Below.refl _ _).alloc (Nat.le_refl _) _
      have HK := Lib.hid (kn_some s)
      have HF1 := Lib.hid (fun w => isConveyor42 s w)
      have HF2 := Lib.hid (fun w => isFirst86 s w)
      have HF3 := Lib.hid (fun w => isLast87 s w)
      have HMB := Lib.hid (Box.new wr #[.string s, .int .i64 t] 43)
      have HB3 := Lib.hid (HBE.out.trans (hba.mono HBE.out.size))
      have HX3 := Lib.hid (HXE.out.later hba)
      obtain ⟨m0, m1, mf, mz⟩ := HMB.out.v2
      obtain ⟨qc, hqc⟩ : ∃ q, cvB s = q := ⟨_, rfl⟩
      obtain ⟨qb, hqb⟩ : ∃ q, bgB s = q := ⟨_, rfl⟩
      obtain ⟨qe, hqe⟩ : ∃ q, enB s = q := ⟨_, rfl⟩
      rw [hqc] at HK HF1
      rw [hqb] at HK HF2
      rw [hqe] at HK HF3
      obtain ⟨q, hq⟩ : ∃ q, kn s = q := ⟨_, rfl⟩
      rw [hq] at HK
      have HS2 := Lib.hid (show (if q < 0 then 20 else if t < 0 ∨ 100000 < t then 3 else ckMsL (p.ms.drop (k + 1))) = S by have h := HL.out; rw [hd.out] at h; (try dsimp only at h); rw [hq] at h; exact h)
      have HS3 := Lib.hid (show (qc || qb || qe) = true → (if t < 0 ∨ 100000 < t then 3 else ckMsL (p.ms.drop (k + 1))) = S from fun e => by
        have h1 := of_decide_eq_true (HK.out.trans e)
        have h := HS2.out
        rw [if_neg (by omega)] at h
        exact h)
      clear hba hq hqc hqb hqe HMB
      have HTL : Hid (t < 0 ∨ 100000 < t → S = 3 → R = 3) := Lib.hid (fun _ h => by rw [← HR1.out, h]; rfl)
      obtain ⟨y0, y1, yf, yz⟩ := HX3.out.v2
      go_wp2_with fail
      refine (HF1.out _).mono ?_
      rintro e w3 ⟨rfl, rfl⟩
      cases qc with
      | true =>
        have HS4 := Lib.hid (HS3.out rfl)
        clear HS3 HS2 HK HF1 HF2 HF3
        by_cases ht0 : t < 0
        · have d1 : decide (t < 0) = true := decide_eq_true ht0
          have HV := Lib.hid (show R = 3 from HTL.out (Or.inl ht0) (by rw [← HS4.out, if_pos (Or.inl ht0)]))
          clear ht0
          go_wp2_with fail
          go_ret
          exact ⟨by rw [HV.out]; rfl, HB3.out⟩
        have d1 : decide (t < 0) = false := decide_eq_false ht0
        by_cases ht1 : 100000 < t
        · have d2 : decide (100000 < t) = true := decide_eq_true ht1
          have HV := Lib.hid (show R = 3 from HTL.out (Or.inr ht1) (by rw [← HS4.out, if_pos (Or.inr ht1)]))
          clear ht0 ht1
          go_wp2_with fail
          go_ret
          exact ⟨by rw [HV.out]; rfl, HB3.out⟩
        have d2 : decide (100000 < t) = false := decide_eq_false ht1
        have HV := Lib.hid (show ckMsL (p.ms.drop (k + 1)) = S by rw [← HS4.out, if_neg (fun h => h.elim ht0 ht1)])
        clear ht0 ht1
        go_wp2_with fail
        go_roundw
        case rel => exact ⟨k + 1, by omega, by go_num, HB3.out, HX3.out, HV.out⟩
        case measure => simp [intOf]; omega
      | false =>
        go_wp2_with fail
        refine (HF2.out _).mono ?_
        rintro e w3 ⟨rfl, rfl⟩
        cases qb with
        | true =>
          have HS4 := Lib.hid (HS3.out rfl)
          clear HS3 HS2 HK HF1 HF2 HF3
          by_cases ht0 : t < 0
          · have d1 : decide (t < 0) = true := decide_eq_true ht0
            have HV := Lib.hid (show R = 3 from HTL.out (Or.inl ht0) (by rw [← HS4.out, if_pos (Or.inl ht0)]))
            clear ht0
            go_wp2_with fail
            go_ret
            exact ⟨by rw [HV.out]; rfl, HB3.out⟩
          have d1 : decide (t < 0) = false := decide_eq_false ht0
          by_cases ht1 : 100000 < t
          · have d2 : decide (100000 < t) = true := decide_eq_true ht1
            have HV := Lib.hid (show R = 3 from HTL.out (Or.inr ht1) (by rw [← HS4.out, if_pos (Or.inr ht1)]))
            clear ht0 ht1
            go_wp2_with fail
            go_ret
            exact ⟨by rw [HV.out]; rfl, HB3.out⟩
          have d2 : decide (100000 < t) = false := decide_eq_false ht1
          have HV := Lib.hid (show ckMsL (p.ms.drop (k + 1)) = S by rw [← HS4.out, if_neg (fun h => h.elim ht0 ht1)])
          clear ht0 ht1
          go_wp2_with fail
          go_roundw
          case rel => exact ⟨k + 1, by omega, by go_num, HB3.out, HX3.out, HV.out⟩
          case measure => simp [intOf]; omega
        | false =>
          go_wp2_with fail
          refine (HF3.out _).mono ?_
          rintro e w3 ⟨rfl, rfl⟩
          cases qe with
          | true =>
            have HS4 := Lib.hid (HS3.out rfl)
            clear HS3 HS2 HK HF1 HF2 HF3
            by_cases ht0 : t < 0
            · have d1 : decide (t < 0) = true := decide_eq_true ht0
              have HV := Lib.hid (show R = 3 from HTL.out (Or.inl ht0) (by rw [← HS4.out, if_pos (Or.inl ht0)]))
              clear ht0
              go_wp2_with fail
              go_ret
              exact ⟨by rw [HV.out]; rfl, HB3.out⟩
            have d1 : decide (t < 0) = false := decide_eq_false ht0
            by_cases ht1 : 100000 < t
            · have d2 : decide (100000 < t) = true := decide_eq_true ht1
              have HV := Lib.hid (show R = 3 from HTL.out (Or.inr ht1) (by rw [← HS4.out, if_pos (Or.inr ht1)]))
              clear ht0 ht1
              go_wp2_with fail
              go_ret
              exact ⟨by rw [HV.out]; rfl, HB3.out⟩
            have d2 : decide (100000 < t) = false := decide_eq_false ht1
            have HV := Lib.hid (show ckMsL (p.ms.drop (k + 1)) = S by rw [← HS4.out, if_neg (fun h => h.elim ht0 ht1)])
            clear ht0 ht1
            go_wp2_with fail
            go_roundw
            case rel => exact ⟨k + 1, by omega, by go_num, HB3.out, HX3.out, HV.out⟩
            case measure => simp [intOf]; omega
          | false =>
            have HV := Lib.hid (show R = 20 by
              have h1 := of_decide_eq_false HK.out
              have h := HS2.out
              rw [if_pos (by omega)] at h
              rw [← HR1.out, ← h]; rfl)
            clear HS3 HS2 HK HF1 HF2 HF3
            go_wp2_with fail
            go_ret
            exact ⟨by rw [HV.out]; rfl, HB3.out⟩
    · obtain rfl : n = k := by omega
      have HS0 := Lib.hid (show S = 0 by rw [← HL.out, ← HN.out, List.drop_length]; rfl)
      clear hbe hx
      by_cases h256 : 256 < m
      · have k2 : decide ((256 : Int) < (m : Int)) = true := decide_eq_true (by omega)
        have HV := Lib.hid (show R = 5 by rw [← HR1.out, HS0.out, if_neg (by simp), if_pos h256])
        go_wp2_with fail
        go_ret
        exact ⟨by rw [HV.out]; rfl, HBE.out⟩
      have k2 : decide ((256 : Int) < (m : Int)) = false := decide_eq_false (by omega)
      have HR2 := Lib.hid (show ckArL p 0 (p.arcs.drop 0) = R by rw [← HR1.out, HS0.out, if_neg (by simp), if_neg h256, List.drop_zero])
      clear HR1 HL HS0
      go_wp2_with fail
      go_loopw [6] (fun j wr => ∃ k : Nat, k ≤ m ∧ j = .int .i64 k ∧ Below w.heap.size w wr ∧ Box wr w.heap.size 25 [.slice a1 n n1, .slice a2 m n2] ∧ ckArL p k (p.arcs.drop k) = R) (fun j _ => m - (intOf j).toNat)
      case atStart => exact ⟨0, by omega, rfl, HBE.out, HXE.out, HR2.out⟩
      case round =>
        clear HBE HXE HR2 x0 x1 xf xz
        obtain ⟨k, hk, rfl, hbe, hx, hrel⟩ := hrel
        have HL := Lib.hid hrel
        have HBE := Lib.hid hbe
        have HXE := Lib.hid hx
        clear hrel
        obtain ⟨x0, x1, xf, xz⟩ := hx.v2
        by_cases hlt : k < m
        · have hkl : k < p.arcs.length := by rw [HM.out]; exact hlt
          obtain ⟨b, off, hat2, hbb, hcells⟩ := HA2.out (by omega)
          subst hat2
          obtain ⟨c0, c1⟩ := ((hcells k hkl).below hbe hbb).c2
          have hbz : b < wr.heap.size := by have := hbe.size; omega
          have hd := Lib.hid (ckArL_drop p k hkl)
          have hnp : 0 < p.ms.length := by rw [HN.out]; omega
          obtain ⟨b1, off1, hat, hbb1, hcells1⟩ := HA1.out hnp
          clear hnp
          subst hat
          have HC1 := Lib.hid hcells1
          have HC0 := Lib.hid hcells
          clear hcells hbe hx hcells1
          generalize p.arcs[k] = ar at *
          obtain ⟨fr, to⟩ := ar
          dsimp only at c0 c1
          have hba : Below wr.heap.size wr (wr.alloc (.cells #[.int .i64 fr, .int .i64 to] 85)) := (Below.refl _ _).alloc (Nat.le_refl _) _
          have HMB := Lib.hid (Box.new wr #[.int .i64 fr, .int .i64 to] 85)
          have HXA := Lib.hid (HXE.out.later hba)
          have HBA := Lib.hid (HBE.out.trans (hba.mono HBE.out.size))
          have HC := Lib.hid (show ckAr p k ⟨fr, to⟩ = if inN n fr = false ∨ inN n to = false then 10 else if fr = to ∨ kAt p to = 0 ∨ kAt p fr = 2 then 1 else if (⟨fr, to⟩ : Ar) ∈ p.arcs.take k then 9 else 0 by unfold ckAr; rw [HN.out])
          clear hba
          obtain ⟨y0, y1, yf, yz⟩ := HXA.out.v2
          obtain ⟨m0, m1, mf, mz⟩ := HMB.out.v2
          have hb1z : b1 < (wr.alloc (.cells #[.int .i64 fr, .int .i64 to] 85)).heap.size := by have := HBA.out.size; omega
          by_cases g1 : fr < 0
          · have d1 : decide (fr < 0) = true := decide_eq_true g1
            have HV := Lib.hid (show R = 10 by rw [← HL.out, hd.out, HC.out, if_pos (Or.inl (by unfold inN; simp; omega))]; simp)
            clear g1
            go_wp2_with fail
            go_ret
            exact ⟨by rw [HV.out]; rfl, HBA.out⟩
          have d1 : decide (fr < 0) = false := decide_eq_false g1
          by_cases g2 : (n : Int) ≤ fr
          · have d2 : decide ((n : Int) ≤ fr) = true := decide_eq_true g2
            have HV := Lib.hid (show R = 10 by rw [← HL.out, hd.out, HC.out, if_pos (Or.inl (by unfold inN; simp; omega))]; simp)
            clear g2
            go_wp2_with fail
            go_ret
            exact ⟨by rw [HV.out]; rfl, HBA.out⟩
          have d2 : decide ((n : Int) ≤ fr) = false := decide_eq_false g2
          by_cases g3 : to < 0
          · have d3 : decide (to < 0) = true := decide_eq_true g3
            have HV := Lib.hid (show R = 10 by rw [← HL.out, hd.out, HC.out, if_pos (Or.inr (by unfold inN; simp; omega))]; simp)
            clear g3
            go_wp2_with fail
            go_ret
            exact ⟨by rw [HV.out]; rfl, HBA.out⟩
          have d3 : decide (to < 0) = false := decide_eq_false g3
          by_cases g4 : (n : Int) ≤ to
          · have d4 : decide ((n : Int) ≤ to) = true := decide_eq_true g4
            have HV := Lib.hid (show R = 10 by rw [← HL.out, hd.out, HC.out, if_pos (Or.inr (by unfold inN; simp; omega))]; simp)
            clear g4
            go_wp2_with fail
            go_ret
            exact ⟨by rw [HV.out]; rfl, HBA.out⟩
          have d4 : decide ((n : Int) ≤ to) = false := decide_eq_false g4
          have HC2 := Lib.hid (show ckAr p k ⟨fr, to⟩ = if fr = to ∨ kAt p to = 0 ∨ kAt p fr = 2 then 1 else if (⟨fr, to⟩ : Ar) ∈ p.arcs.take k then 9 else 0 by rw [HC.out, if_neg]; unfold inN; simp; omega)
          clear HC
          by_cases hft : fr = to
          · have d5 : (fr == to) = true := by simp [hft]
            have HV := Lib.hid (show R = 1 by rw [← HL.out, hd.out, HC2.out, if_pos (Or.inl hft)]; simp)
            clear hft
            go_wp2_with fail
            go_ret
            exact ⟨by rw [HV.out]; rfl, HBA.out⟩
          have d5 : (fr == to) = false := by simp [hft]
          obtain ⟨kf, rfl⟩ : ∃ x : Nat, fr = x := ⟨fr.toNat, by omega⟩
          obtain ⟨kt, rfl⟩ : ∃ x : Nat, to = x := ⟨to.toNat, by omega⟩
          have hkf : kf < n := by omega
          have hkt : kt < n := by omega
          clear g1 g2 g3 g4
          have hkf' : kf < p.ms.length := by rw [HN.out]; exact hkf
          have hkt' : kt < p.ms.length := by rw [HN.out]; exact hkt
          have HKT := Lib.hid (kAt_nat hkt')
          have HKF := Lib.hid (kAt_nat hkf')
          obtain ⟨ct0, ct1⟩ := ((HC1.out kt hkt').below HBA.out hbb1).c2
          obtain ⟨cf0, cf1⟩ := ((HC1.out kf hkf').below HBA.out hbb1).c2
          generalize p.ms[kt] = mt at *
          generalize p.ms[kf] = mf1 at *
          clear hkf' hkt' HC1
          obtain ⟨st, tt⟩ := mt
          obtain ⟨sf, tf⟩ := mf1
          dsimp only at ct0 ct1 cf0 cf1
          obtain ⟨q3, hq3⟩ : ∃ q, (st.toList == [112, 105, 116]) = q := ⟨_, rfl⟩
          obtain ⟨q4, hq4⟩ : ∃ q, (sf.toList == [115, 112, 111, 117, 116]) = q := ⟨_, rfl⟩
          have HQ3 := Lib.hid (show decide (kAt p kt = 0) = q3 by rw [HKT.out]; exact (kn_w0 st).trans hq3)
          have HQ4 := Lib.hid (show decide (kAt p kf = 2) = q4 by rw [HKF.out]; exact (kn_w2 sf).trans hq4)
          clear HKT HKF
          cases q3 with
          | true =>
            have HV := Lib.hid (show R = 1 by rw [← HL.out, hd.out, HC2.out, if_pos (Or.inr (Or.inl (of_decide_eq_true HQ3.out)))]; simp)
            go_wp2_with fail
            go_ret
            exact ⟨by rw [HV.out]; rfl, HBA.out⟩
          | false =>
          cases q4 with
          | true =>
            have HV := Lib.hid (show R = 1 by rw [← HL.out, hd.out, HC2.out, if_pos (Or.inr (Or.inr (of_decide_eq_true HQ4.out)))]; simp)
            go_wp2_with fail
            go_ret
            exact ⟨by rw [HV.out]; rfl, HBA.out⟩
          | false =>
          have HC3 := Lib.hid (show ckAr p k ⟨kf, kt⟩ = if (⟨kf, kt⟩ : Ar) ∈ p.arcs.take k then 9 else 0 by rw [HC2.out, if_neg]; exact fun h => h.elim hft (fun h => h.elim (of_decide_eq_false HQ3.out) (of_decide_eq_false HQ4.out)))
          obtain ⟨Q, hQ⟩ : ∃ q, decide ((⟨kf, kt⟩ : Ar) ∈ p.arcs.take k) = q := ⟨_, rfl⟩
          have HQ5 := Lib.hid hQ
          clear HC2 HQ3 HQ4 hft hQ
          have H9 : Hid (Q = true → R = 9) := Lib.hid (fun e => by rw [← HL.out, hd.out, HC3.out, if_pos (of_decide_eq_true (HQ5.out.trans e))]; simp)
          have H10 : Hid (Q = false → ckArL p (k + 1) (p.arcs.drop (k + 1)) = R) := Lib.hid (fun e => by rw [← HL.out, hd.out, HC3.out, if_neg (of_decide_eq_false (HQ5.out.trans e))]; simp)
          clear HC3
          go_wp2_with fail
          clear hq3 hq4 ct0 ct1 cf0 cf1 hb1z
          go_loopw [8] (fun j wr' => ∃ i : Nat, i ≤ k ∧ j = .int .i64 i ∧ Below w.heap.size w wr' ∧ Box wr' w.heap.size 25 [.slice (some ⟨b1, off1, none⟩) n n1, .slice (some ⟨b, off, none⟩) m n2] ∧ Box wr' wr.heap.size 85 [.int .i64 kf, .int .i64 kt] ∧ decide ((⟨kf, kt⟩ : Ar) ∈ (p.arcs.take k).drop i) = Q) (fun j _ => k - (intOf j).toNat)
          case atStart => exact ⟨0, by omega, rfl, HBA.out, HXA.out, HMB.out, HQ5.out⟩
          case round =>
            clear HBA HXA HMB HQ5 x0 x1 xf xz y0 y1 yf yz m0 m1 mf mz c0 c1 hbz
            obtain ⟨i, hi, rfl, hbi, hxi, hmi, hrel⟩ := hrel
            have HRL := Lib.hid hrel
            have HBI := Lib.hid hbi
            have HXI := Lib.hid hxi
            have HMI := Lib.hid hmi
            clear hrel
            obtain ⟨x0, x1, xf, xz⟩ := hxi.v2
            obtain ⟨m0, m1, mf, mz⟩ := hmi.v2
            by_cases hit : i < k
            · have hil : i < p.arcs.length := by rw [HM.out]; omega
              have him : i < m := by omega
              obtain ⟨c0, c1⟩ := ((HC0.out i hil).below hbi hbb).c2
              have hbz := Nat.lt_of_lt_of_le hbb hbi.size
              have hd2 := Lib.hid (show decide ((⟨kf, kt⟩ : Ar) ∈ (p.arcs.take k).drop i) = (decide ((⟨kf, kt⟩ : Ar) = p.arcs[i]) || decide ((⟨kf, kt⟩ : Ar) ∈ (p.arcs.take k).drop (i + 1))) by
                have h := mem_drop_step (p.arcs.take k) ⟨kf, kt⟩ i (by rw [List.length_take]; omega)
                rw [List.getElem_take] at h
                exact h)
              clear hbi hxi hmi
              generalize p.arcs[i] = z at *
              clear hil
              obtain ⟨zf, zt⟩ := z
              dsimp only at c0 c1
              have HD := Lib.hid (show decide ((⟨kf, kt⟩ : Ar) = ⟨zf, zt⟩) = (zf == (kf : Int) && zt == (kt : Int)) by
                rw [Bool.eq_iff_iff]; simp; constructor <;> (rintro ⟨h1, h2⟩; exact ⟨h1.symm, h2.symm⟩))
              rw [HD.out, HRL.out] at hd2
              clear HD HRL
              obtain ⟨q1, hq1⟩ : ∃ q, (zf == (kf : Int)) = q := ⟨_, rfl⟩
              obtain ⟨q2, hq2⟩ : ∃ q, (zt == (kt : Int)) = q := ⟨_, rfl⟩
              rw [hq1, hq2] at hd2
              cases q1 with
              | false =>
                have HV := Lib.hid (show decide ((⟨kf, kt⟩ : Ar) ∈ (p.arcs.take k).drop (i + 1)) = Q by rw [hd2.out]; rfl)
                go_wp2_with fail
                go_quiet (fail)
                go_wp2_with fail
                go_roundw
                case rel => exact ⟨i + 1, by omega, by go_num, below_drewN HBI.out _, HXI.out.later (below_drewN (Below.refl _ _) _), HMI.out.later (below_drewN (Below.refl _ _) _), HV.out⟩
                case measure => simp [intOf]; omega
              | true =>
                cases q2 with
                | false =>
                  have HV := Lib.hid (show decide ((⟨kf, kt⟩ : Ar) ∈ (p.arcs.take k).drop (i + 1)) = Q by rw [hd2.out]; rfl)
                  go_wp2_with fail
                  go_quiet (fail)
                  go_wp2_with fail
                  go_roundw
                  case rel => exact ⟨i + 1, by omega, by go_num, below_drewN HBI.out _, HXI.out.later (below_drewN (Below.refl _ _) _), HMI.out.later (below_drewN (Below.refl _ _) _), HV.out⟩
                  case measure => simp [intOf]; omega
                | true =>
                  have HV := Lib.hid (H9.out (by rw [hd2.out]; rfl))
                  go_wp2_with fail
                  go_quiet (fail)
                  go_wp2_with fail
                  go_ret
                  exact ⟨by rw [HV.out]; rfl, below_drewN HBI.out _⟩
            · obtain rfl : k = i := by omega
              have HV := Lib.hid (H10.out (by rw [← HRL.out, List.drop_of_length_le (by rw [List.length_take]; omega)]; simp))
              clear hbi hxi hmi
              go_wp2_with fail
              go_roundw
              case rel => exact ⟨k + 1, by omega, by go_num, HBI.out, HXI.out, HV.out⟩
              case measure => simp [intOf]; omega
        · obtain rfl : m = k := by omega
          have HV := Lib.hid (show R = 0 by rw [← HL.out, ← HM.out, List.drop_length]; rfl)
          clear hbe hx
          go_wp2_with fail
          go_ret
          exact ⟨by rw [HV.out]; rfl, HBE.out⟩
end Go.Proofs.YtpafjhjpchdcdaaGreatDoor
/- Plain: what a path is. -/
namespace Go.Proofs.YtpafjhjpchdcdaaGreatDoor
open Go Go.Proofs Go.RowKit Go.Shelf
def kdA (p : Pl) (x : Int) : ByteArray := (p.ms.getD x.toNat ⟨⟨#[]⟩, 0⟩).kind
theorem kdA_nat {p : Pl} {x : Nat} (h : x < p.ms.length) : kdA p x = p.ms[x].kind := by
  unfold kdA
  rw [show ((x : Int)).toNat = x by omega, List.getD_eq_getElem?_getD, List.getElem?_eq_getElem h]; rfl
def okK (p : Pl) (l : List Int) (k : Nat) : Bool :=
  decide (k = 0) || ((decide (k + 1 = l.length) || cvB (kdA p (l.getD k 0))) && decide ((⟨l.getD (k - 1) 0, l.getD k 0⟩ : Ar) ∈ p.arcs))
def pathB (p : Pl) (l : List Int) : Bool := decide (2 ≤ l.length) && (bgB (kdA p (l.getD 0 0)) && (enB (kdA p (l.getD (l.length - 1) 0)) && (!dupB l && (List.range l.length).all (okK p l))))
theorem pathB_iff (p : Pl) (l : List Int) : pathB p l = true ↔ 2 ≤ l.length ∧ bgB (kdA p (l.getD 0 0)) = true ∧ enB (kdA p (l.getD (l.length - 1) 0)) = true ∧ l.Nodup ∧ ∀ k, k < l.length → okK p l k = true := by
  unfold pathB
  simp only [Bool.and_eq_true, decide_eq_true_eq, Bool.not_eq_true', nodup_dup, List.all_eq_true, List.mem_range]
theorem pathB_no {p : Pl} {l : List Int} {R : Bool} (h : pathB p l = R) (hn : ¬ (2 ≤ l.length ∧ bgB (kdA p (l.getD 0 0)) = true ∧ enB (kdA p (l.getD (l.length - 1) 0)) = true ∧ l.Nodup ∧ ∀ k, k < l.length → okK p l k = true)) : R = false := by
  cases R with
  | false => rfl
  | true => exact absurd ((pathB_iff p l).1 h) hn
theorem nodup_take_of {l : List Int} {k : Nat} (h : l.Nodup) (hk : k < l.length) : (l.take k).contains l[k] = false :=
  ((nodup_take l k hk).1 (h.sublist (List.take_sublist _ _))).2
def pathE (p : Pl) (l : List Int) : Int := if unkE p.ms.length l ≠ 0 then unkE p.ms.length l else if pathB p l then 0 else 1
set_option maxRecDepth 100000 in
set_option maxHeartbeats 1000000 in
theorem isPath103 (w : World) (v1 v2 u : Value) (p : Pl) (l : List Int) (hw : WdR w) (hv : PlR w w.heap.size v1 v2 p) (hu : Sl encI 1 w w.heap.size u l) (hin : ∀ x ∈ l, inN p.ms.length x = true) : Calls Tryz.prog 80 #[.agg #[v1, v2], u] w (Ret (.bool (pathB p l)) w) := by
  have HWD := Lib.hid (fun (w1 : World) (hb : Below w.heap.size w w1) => hw.later hb)
  have HU := Lib.hid hu
  have HAR := Lib.hid hv.arcs
  obtain ⟨⟨a1, n1, rfl, hl1, hA1⟩, ⟨a2, n2, rfl, hl2, hA2⟩⟩ := hv
  obtain ⟨a, c, rfl, hlen, hA⟩ := hu
  have HA1 := Lib.hid hA1
  have HA := Lib.hid hA
  have HIN := Lib.hid hin
  clear hA1 hA2 hA hl2 hin hw
  obtain ⟨h11, h12⟩ := hl1
  obtain ⟨hl, hlc⟩ := hlen
  obtain ⟨R, hR⟩ : ∃ R, pathB p l = R := ⟨_, rfl⟩
  rw [hR]
  have HR := Lib.hid hR
  clear hR
  have HB := Lib.hid ((Below.refl w.heap.size w).alloc (Nat.le_refl _) (.cells #[.slice a1 p.ms.length n1, .slice a2 p.arcs.length n2] 25))
  have HX := Lib.hid (Box.new w #[.slice a1 p.ms.length n1, .slice a2 p.arcs.length n2] 25)
  obtain ⟨n, hn⟩ : ∃ n, p.ms.length = n := ⟨_, rfl⟩
  obtain ⟨m, hm⟩ : ∃ m, p.arcs.length = m := ⟨_, rfl⟩
  obtain ⟨ln, hln⟩ : ∃ m, l.length = m := ⟨_, rfl⟩
  rw [hn] at HB HX h11 h12 HIN ⊢
  rw [hm] at HB HX HAR ⊢
  rw [hln] at hl hlc HU ⊢
  have HN := Lib.hid hn
  have HM := Lib.hid hm
  have HLN := Lib.hid hln
  clear hn hm hln
  go_enter Tryz.func80, Tryz.ntmps80
  by_cases h2 : ln < 2
  · have k0 : decide ((ln : Int) < 2) = true := decide_eq_true (by omega)
    have HV := Lib.hid (pathB_no HR.out (fun h => by have := h.1; rw [HLN.out] at this; omega))
    go_wp2_with fail
    go_quiet (fail)
    go_wp2_with fail
    go_ret
    exact ⟨by rw [HV.out]; rfl, below_drewN HB.out _⟩
  obtain ⟨e, rfl⟩ : ∃ e, ln = e + 1 := ⟨ln - 1, by omega⟩
  have k0 : decide (((e + 1 : Nat) : Int) < 2) = false := decide_eq_false (by omega)
  have k0' : decide ((e : Int) + 1 < 2) = false := decide_eq_false (by omega)
  have hpos : 0 < l.length := by rw [HLN.out]; omega
  have hel : e < l.length := by rw [HLN.out]; omega
  obtain ⟨b, off, rfl, hbb, hcells⟩ := HA.out hpos
  have HC := Lib.hid hcells
  have c0 := (hcells 0 hpos).c1
  rw [Nat.zero_mul, Nat.add_zero] at c0
  obtain ⟨x0, hx0, hx0n⟩ := inN_nat (HIN.out l[0] (List.getElem_mem hpos))
  obtain ⟨xe, hxe, hxen⟩ := inN_nat (HIN.out l[e] (List.getElem_mem hel))
  rw [hx0] at c0
  have HX0 := Lib.hid (show l.getD 0 0 = (x0 : Int) by rw [getD_at l 0 hpos, hx0])
  have HXE := Lib.hid (show l.getD (l.length - 1) 0 = (xe : Int) by rw [show l.length - 1 = e by rw [HLN.out]; rfl, getD_at l e hel, hxe])
  have hx0l : x0 < p.ms.length := by rw [HN.out]; exact hx0n
  have hxel : xe < p.ms.length := by rw [HN.out]; exact hxen
  obtain ⟨b1, off1, rfl, hbb1, hcells1⟩ := HA1.out (by omega)
  have HC1 := Lib.hid hcells1
  obtain ⟨ct0, ct1⟩ := (hcells1 x0 hx0l).c2
  have HK0 := Lib.hid (kdA_nat hx0l)
  have HKE := Lib.hid (kdA_nat hxel)
  have HCE := Lib.hid (hcells1 xe hxel)
  have HCL := Lib.hid (show At w b (off + e * 1) (encI xe) by rw [← hxe]; exact hcells e hel)
  clear hcells hcells1 hx0 hxe hpos
  generalize p.ms[x0] = m0 at *
  generalize p.ms[xe] = me at *
  clear hel hx0l hxel
  obtain ⟨s0, t0⟩ := m0
  obtain ⟨se, te⟩ := me
  dsimp only at ct0 ct1 HK0 HKE
  have HBG := Lib.hid (fun s t (w' : World) (hb : Below w.heap.size w w') => begins80 s t w' (HWD.out w' hb))
  have HEN := Lib.hid (fun s t (w' : World) (hb : Below w.heap.size w w') => ends81 s t w' (HWD.out w' hb))
  obtain ⟨q0, hq0⟩ : ∃ q, bgB s0 = q := ⟨_, rfl⟩
  obtain ⟨qe, hqe⟩ : ∃ q, enB se = q := ⟨_, rfl⟩
  have HQ0 := Lib.hid hq0
  have HQE := Lib.hid hqe
  clear hq0 hqe
  have HBX := Lib.hid (fun (X : Later (w.alloc (.cells #[.slice (some ⟨b1, off1, none⟩) n n1, .slice a2 m n2] 25))) => HB.out.trans (X.h.mono HB.out.size))
  have d0 := HCL.out.c1
  obtain ⟨de0, de1⟩ := HCE.out.c2
  rw [Nat.mul_one] at d0
  have hbz : b < w.heap.size := hbb
  have hb1z : b1 < w.heap.size := hbb1
  have HK80 := Lib.hid (fun (X : Later (w.alloc (.cells #[.slice (some ⟨b1, off1, none⟩) n n1, .slice a2 m n2] 25))) => HBG.out s0 t0 _ (HBX.out X))
  have HK81 := Lib.hid (fun (X : Later (w.alloc (.cells #[.slice (some ⟨b1, off1, none⟩) n n1, .slice a2 m n2] 25))) => HEN.out se te _ (HBX.out X))
  rw [HQ0.out] at HK80
  rw [HQE.out] at HK81
  cases q0 with
  | false =>
    have HV := Lib.hid (pathB_no HR.out (fun h => by have := h.2.1; rw [HX0.out, HK0.out, HQ0.out] at this; cases this))
    go_wp2_with fail
    refine wp_region_later (by kernel_rfl) (by kernel_rfl) ?_
    repeat go_big_quiet_step ((go_at_call 81; exact Calls.later (HK80.out _)))
    refine wpQuiet_nil ?_
    rintro w2 ⟨⟨_, hb2⟩, rfl⟩
    go_wp2_with fail
    go_ret
    exact ⟨by rw [HV.out]; rfl, HB.out.trans (hb2.mono HB.out.size)⟩
  | true =>
    cases qe with
    | false =>
      have HV := Lib.hid (pathB_no HR.out (fun h => by have := h.2.2.1; rw [HXE.out, HKE.out, HQE.out] at this; cases this))
      go_wp2_with fail
      refine wp_region_later (by kernel_rfl) (by kernel_rfl) ?_
      repeat go_big_quiet_step ((first | (go_at_call 81; exact Calls.later (HK80.out _)) | (go_at_call 82; exact Calls.later (HK81.out _))))
      refine wpQuiet_nil ?_
      rintro w2 ⟨⟨_, hb2⟩, rfl⟩
      go_wp2_with fail
      go_ret
      exact ⟨by rw [HV.out]; rfl, HB.out.trans (hb2.mono HB.out.size)⟩
    | true =>
      go_wp2_with fail
      refine wp_region_later (by kernel_rfl) (by kernel_rfl) ?_
      repeat go_big_quiet_step ((first | (go_at_call 81; exact Calls.later (HK80.out _)) | (go_at_call 82; exact Calls.later (HK81.out _))))
      refine wpQuiet_nil ?_
      rintro w2 ⟨⟨_, hb2⟩, rfl⟩
      go_wp2_with fail
      have HR2 := Lib.hid (fun (h : l.Nodup) (h' : ∀ k, k < l.length → okK p l k = true) => show R = true by rw [← HR.out]; exact (pathB_iff p l).2 ⟨by rw [HLN.out]; omega, by rw [HX0.out, HK0.out]; exact HQ0.out, by rw [HXE.out, HKE.out]; exact HQE.out, h, h'⟩)
      have HB2 := Lib.hid (HB.out.trans (hb2.mono HB.out.size))
      have HX2 := Lib.hid (HX.out.later hb2)
      clear HB HX HBX hb2 HK80 HK81 ct0 ct1 c0 d0 de0 de1 HK0 HKE HX0 HXE HQ0 HQE HCL HCE HBG HEN
      go_loopw [37] (fun i wr => ∃ k : Nat, k ≤ e + 1 ∧ i = .int .i64 k ∧ Below w.heap.size w wr ∧ Box wr w.heap.size 25 [.slice (some ⟨b1, off1, none⟩) n n1, .slice a2 m n2] ∧ (l.take k).Nodup ∧ ∀ j, j < k → okK p l j = true) (fun i _ => e + 1 - (intOf i).toNat)
      case atStart => exact ⟨0, by omega, rfl, HB2.out, HX2.out, by simp, fun j hj => absurd hj (by omega)⟩
      case round =>
        clear HB2 HX2
        obtain ⟨k, hk, rfl, hbe, hx, hnd, hok⟩ := hrel
        have HND := Lib.hid hnd
        have HOK := Lib.hid hok
        have HBE := Lib.hid hbe
        have HXE := Lib.hid hx
        obtain ⟨x0, x1, xf, xz⟩ := hx.v2
        clear hnd hok
        by_cases hlt : k < e + 1
        rotate_left
        · obtain rfl : k = e + 1 := by omega
          have HV := Lib.hid (HR2.out (by have := HND.out; rwa [List.take_of_length_le (by rw [HLN.out]; omega)] at this) (fun k hk => HOK.out k (by rw [HLN.out] at hk; exact hk)))
          have g0 : decide ((e : Int) + 1 < (e : Int) + 1) = false := decide_eq_false (by omega)
          clear hbe hx
          go_wp2_with fail
          go_ret
          exact ⟨by rw [HV.out]; rfl, HBE.out⟩
        have hkl : k < l.length := by rw [HLN.out]; exact hlt
        have hkc : (k : Int) ≤ c := by omega
        have c0 := ((HC.out k hkl).below hbe hbb).c1
        rw [Nat.mul_one] at c0
        have hbz : b < wr.heap.size := by have := hbe.size; omega
        have hb1z : b1 < wr.heap.size := by have := hbe.size; omega
        obtain ⟨x, hx', hxn⟩ := inN_nat (HIN.out l[k] (List.getElem_mem hkl))
        rw [hx'] at c0
        have hxl : x < p.ms.length := by rw [HN.out]; exact hxn
        obtain ⟨cx0, cx1⟩ := ((HC1.out x hxl).below hbe hbb1).c2
        have HLK := Lib.hid (show l.getD k 0 = (x : Int) by rw [getD_at l k hkl, hx'])
        have HKX := Lib.hid (kdA_nat hxl)
        have HNT := Lib.hid (nodup_take l k hkl)
        rw [hx'] at HNT
        have HT := Lib.hid (HU.out.take k (by omega))
        have HNO := Lib.hid (fun (h : okK p l k = false) => pathB_no HR.out (fun h' => by have := h'.2.2.2.2 k hkl; rw [h] at this; cases this))
        have HNO2 := Lib.hid (fun (h : (l.take k).contains (x : Int) = true) => pathB_no HR.out (fun h' => by have := nodup_take_of h'.2.2.2.1 hkl; rw [hx', h] at this; cases this))
        clear hbe hx hx'
        generalize p.ms[x] = mx at *
        clear hxl
        obtain ⟨sx, tx⟩ := mx
        dsimp only at cx0 cx1 HKX
        have HK82 := Lib.hid (fun (X : Later wr) => contains82 _ (l.take k) x X.w (HT.out.later (HBE.out.trans (X.h.mono HBE.out.size))))
        have HK84 := Lib.hid (fun (X : Later wr) => conveys84 sx tx X.w (HWD.out _ (HBE.out.trans (X.h.mono HBE.out.size))))
        obtain ⟨q, hq⟩ : ∃ q, (l.take k).contains (x : Int) = q := ⟨_, rfl⟩
        obtain ⟨qc, hqc⟩ : ∃ q, cvB sx = q := ⟨_, rfl⟩
        rw [hq] at HK82 HNT HNO2
        rw [hqc] at HK84
        have HQC := Lib.hid hqc
        clear hq hqc
        cases q with
        | true =>
          have HV := Lib.hid (HNO2.out rfl)
          go_wp2_with fail
          refine wp_region_later (by kernel_rfl) (by kernel_rfl) ?_
          repeat go_big_quiet_step ((go_at_call 69; exact Calls.later_same (HK82.out _)))
          refine wpQuiet_nil ?_
          rintro w3 ⟨⟨_, hb3⟩, rfl⟩
          go_wp2_with fail
          go_ret
          exact ⟨by rw [HV.out]; rfl, HBE.out.trans (hb3.mono HBE.out.size)⟩
        | false =>
        have HN2 := Lib.hid (HNT.out.2 ⟨HND.out, rfl⟩)
        cases k with
        | zero =>
          rw [Nat.add_zero] at c0
          have g0 : decide ((0 : Int) < (e : Int) + 1) = true := decide_eq_true (by omega)
          go_wp2_with fail
          refine wp_region_later (by kernel_rfl) (by kernel_rfl) ?_
          repeat go_big_quiet_step ((go_at_call 69; exact Calls.later_same (HK82.out _)))
          refine wpQuiet_nil ?_
          rintro w3 ⟨⟨_, hb3⟩, rfl⟩
          go_wp2_with fail
          go_roundw
          case rel => exact ⟨1, by omega, by go_num, HBE.out.trans (hb3.mono HBE.out.size), HXE.out.later hb3, HN2.out, fun j hj => by rw [show j = 0 from Nat.lt_one_iff.1 hj]; rfl⟩
          case measure => simp [intOf]
        | succ j =>
        have hjl : j < l.length := by rw [HLN.out]; omega
        have cj := ((HC.out j hjl).below HBE.out hbb).c1
        rw [Nat.mul_one] at cj
        obtain ⟨y, hy, hyn⟩ := inN_nat (HIN.out l[j] (List.getElem_mem hjl))
        rw [hy] at cj
        have HLJ := Lib.hid (show l.getD j 0 = (y : Int) by rw [getD_at l j hjl, hy])
        clear hy hjl
        have HK102 := Lib.hid (fun (X : Later wr) => contains102 _ p.arcs ⟨y, x⟩ X.w (HAR.out.later (HBE.out.trans (X.h.mono HBE.out.size))))
        obtain ⟨qa, hqa⟩ : ∃ q, decide ((⟨(y : Int), (x : Int)⟩ : Ar) ∈ p.arcs) = q := ⟨_, rfl⟩
        rw [hqa] at HK102
        have HOKE := Lib.hid (show okK p l (j + 1) = ((decide (j + 1 = e) || qc) && qa) by
          unfold okK
          rw [HLN.out, HLK.out, HKX.out, HQC.out, show j + 1 - 1 = j by omega, HLJ.out, hqa, decide_eq_false (show ¬ j + 1 = 0 by omega), Bool.false_or]
          congr 2
          exact decide_eq_decide.2 (by omega))
        clear hqa
        have g1 : decide ((0 : Int) < (j : Int) + 1) = true := decide_eq_true (by omega)
        have g2 : decide ((j : Int) + 1 < (e : Int) + 1) = true := decide_eq_true (by omega)
        have g2' : decide ((j : Int) < (e : Int)) = true := decide_eq_true (by omega)
        by_cases hje : j + 1 = e
        · rw [decide_eq_true hje, Bool.true_or, Bool.true_and] at HOKE
          have g3 : decide ((j : Int) + 1 < (e : Int)) = false := decide_eq_false (by omega)
          have g4 : decide (j + 1 < e) = false := decide_eq_false (by omega)
          have HJE := Lib.hid hje
          clear hje
          cases qa with
          | false =>
            have HV := Lib.hid (HNO.out HOKE.out)
            go_wp2_with fail
            refine wp_region_later (by kernel_rfl) (by kernel_rfl) ?_
            repeat go_big_quiet_step ((first | (go_at_call 69; exact Calls.later_same (HK82.out _)) | (go_at_call 48; exact Calls.later (HK102.out _))))
            refine wpQuiet_nil ?_
            rintro w3 ⟨⟨_, hb3⟩, rfl⟩
            go_wp2_with fail
            go_ret
            exact ⟨by rw [HV.out]; rfl, HBE.out.trans (hb3.mono HBE.out.size)⟩
          | true =>
            go_wp2_with fail
            refine wp_region_later (by kernel_rfl) (by kernel_rfl) ?_
            repeat go_big_quiet_step ((first | (go_at_call 69; exact Calls.later_same (HK82.out _)) | (go_at_call 48; exact Calls.later (HK102.out _))))
            refine wpQuiet_nil ?_
            rintro w3 ⟨⟨_, hb3⟩, rfl⟩
            go_wp2_with fail
            go_roundw
            case rel => exact ⟨j + 1 + 1, by omega, by go_num, HBE.out.trans (hb3.mono HBE.out.size), HXE.out.later hb3, HN2.out, fun i hi => (Nat.lt_succ_iff_lt_or_eq.1 hi).elim (HOK.out i) (fun h => by rw [h]; exact HOKE.out)⟩
            case measure => simp [intOf]; omega
        · rw [decide_eq_false hje, Bool.false_or] at HOKE
          have g3 : decide ((j : Int) + 1 < (e : Int)) = true := decide_eq_true (by omega)
          have g4 : decide (j + 1 < e) = true := decide_eq_true (by omega)
          have HJE := Lib.hid hje
          clear hje
          cases qc with
          | false =>
            have HV := Lib.hid (HNO.out HOKE.out)
            go_wp2_with fail
            refine wp_region_later (by kernel_rfl) (by kernel_rfl) ?_
            repeat go_big_quiet_step ((first | (go_at_call 69; exact Calls.later_same (HK82.out _)) | (go_at_call 36; exact Calls.later (HK84.out _))))
            refine wpQuiet_nil ?_
            rintro w3 ⟨⟨_, hb3⟩, rfl⟩
            go_wp2_with fail
            go_ret
            exact ⟨by rw [HV.out]; rfl, HBE.out.trans (hb3.mono HBE.out.size)⟩
          | true =>
          cases qa with
          | false =>
            have HV := Lib.hid (HNO.out HOKE.out)
            go_wp2_with fail
            refine wp_region_later (by kernel_rfl) (by kernel_rfl) ?_
            repeat go_big_quiet_step ((first | (go_at_call 69; exact Calls.later_same (HK82.out _)) | (go_at_call 36; exact Calls.later (HK84.out _)) | (go_at_call 48; exact Calls.later (HK102.out _))))
            refine wpQuiet_nil ?_
            rintro w3 ⟨⟨_, hb3⟩, rfl⟩
            go_wp2_with fail
            go_ret
            exact ⟨by rw [HV.out]; rfl, HBE.out.trans (hb3.mono HBE.out.size)⟩
          | true =>
            go_wp2_with fail
            refine wp_region_later (by kernel_rfl) (by kernel_rfl) ?_
            repeat go_big_quiet_step ((first | (go_at_call 69; exact Calls.later_same (HK82.out _)) | (go_at_call 36; exact Calls.later (HK84.out _)) | (go_at_call 48; exact Calls.later (HK102.out _))))
            refine wpQuiet_nil ?_
            rintro w3 ⟨⟨_, hb3⟩, rfl⟩
            go_wp2_with fail
            go_roundw
            case rel => exact ⟨j + 1 + 1, by omega, by go_num, HBE.out.trans (hb3.mono HBE.out.size), HXE.out.later hb3, HN2.out, fun i hi => (Nat.lt_succ_iff_lt_or_eq.1 hi).elim (HOK.out i) (fun h => by rw [h]; exact HOKE.out)⟩
            case measure => simp [intOf]; omega
end Go.Proofs.YtpafjhjpchdcdaaGreatDoor
