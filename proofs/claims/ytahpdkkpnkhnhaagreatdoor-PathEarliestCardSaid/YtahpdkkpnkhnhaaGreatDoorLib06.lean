/- Lemmas on the way to the laws (part 6): Af Ag Ah -/
import Derived.Test.YtahpdkkpnkhnhaaGreatDoorLib05
set_option linter.unusedVariables false
set_option linter.unusedSimpArgs false

/- Walks: path.CheckPlant. -/
namespace Go.Proofs.YtahpdkkpnkhnhaaGreatDoor
open Go Go.Proofs Go.RowKit Go.Shelf

def ckMsL : List Mc → Int
  | [] => 0
  | m :: r => if kn m.kind < 0 then 20 else if m.time < 0 ∨ 100000 < m.time then 3 else ckMsL r
theorem ckMsL_drop (l : List Mc) (k : Nat) (h : k < l.length) : ckMsL (l.drop k) = if kn l[k].kind < 0 then 20 else if l[k].time < 0 ∨ 100000 < l[k].time then 3 else ckMsL (l.drop (k + 1)) := by
  rw [List.drop_eq_getElem_cons h]; rfl
/-- The kind of machine x. -/
def kAt (p : Pl) (x : Int) : Int := kn (p.ms.getD x.toNat ⟨⟨#[]⟩, 0⟩).kind
theorem kAt_nat {p : Pl} {x : Nat} (h : x < p.ms.length) : kAt p x = kn p.ms[x].kind := by
  unfold kAt
  rw [show ((x : Int)).toNat = x by omega, List.getD_eq_getElem?_getD, List.getElem?_eq_getElem h]; rfl
def ckAr (p : Pl) (k : Nat) (a : Ar) : Int :=
  if inN p.ms.length a.fr = false ∨ inN p.ms.length a.to = false then 10 else if a.fr = a.to ∨ kAt p a.to = 0 ∨ kAt p a.fr = 2 then 1 else if a ∈ p.arcs.take k then 9 else 0
def ckArL (p : Pl) : Nat → List Ar → Int
  | _, [] => 0
  | k, a :: r => if ckAr p k a ≠ 0 then ckAr p k a else ckArL p (k + 1) r
theorem ckArL_drop (p : Pl) (k : Nat) (h : k < p.arcs.length) : ckArL p k (p.arcs.drop k) = if ckAr p k p.arcs[k] ≠ 0 then ckAr p k p.arcs[k] else ckArL p (k + 1) (p.arcs.drop (k + 1)) := by
  rw [List.drop_eq_getElem_cons h]; rfl
def ckPlant (p : Pl) : Int := if p.ms.length = 0 then 2 else if 64 < p.ms.length then 5 else if ckMsL p.ms ≠ 0 then ckMsL p.ms else if 256 < p.arcs.length then 5 else ckArL p 0 p.arcs
theorem inN_nat {n : Nat} {x : Int} (h : inN n x = true) : ∃ k : Nat, x = k ∧ k < n := by
  unfold inN at h
  simp only [Bool.and_eq_true, decide_eq_true_eq] at h
  exact ⟨x.toNat, by omega, by omega⟩

set_option maxRecDepth 100000 in
set_option maxHeartbeats 1000000 in
theorem ckPlant32 (w : World) (v1 v2 : Value) (p : Pl) (hw : WdR w) (hv : PlR w w.heap.size v1 v2 p) : Calls Tryz.prog 32 #[.agg #[v1, v2]] w (Ret (.int .i64 (ckPlant p)) w) := by
  have HWD := Lib.hid (fun (w1 : World) (hb : Below w.heap.size w w1) => hw.later hb)
  have HAR := Lib.hid hv.arcs
  obtain ⟨⟨a1, n1, rfl, hl1, hA1⟩, ⟨a2, n2, rfl, hl2, hA2⟩⟩ := hv
  have HA1 := Lib.hid hA1
  have HA2 := Lib.hid hA2
  clear hA1 hA2 hw
  obtain ⟨h11, h12⟩ := hl1
  obtain ⟨h21, h22⟩ := hl2
  obtain ⟨R, hR⟩ : ∃ R, ckPlant p = R := ⟨_, rfl⟩
  rw [hR]
  unfold ckPlant at hR
  have HR := Lib.hid hR
  clear hR
  have HB := Lib.hid ((Below.refl w.heap.size w).alloc (Nat.le_refl _) (.cells #[.slice a1 p.ms.length n1, .slice a2 p.arcs.length n2] 25))
  have HX := Lib.hid (Box.new w #[.slice a1 p.ms.length n1, .slice a2 p.arcs.length n2] 25)
  obtain ⟨n, hn⟩ : ∃ n, p.ms.length = n := ⟨_, rfl⟩
  obtain ⟨m, hm⟩ : ∃ m, p.arcs.length = m := ⟨_, rfl⟩
  rw [hn] at HR HB HX h11 h12 ⊢
  rw [hm] at HR HB HX h21 h22 ⊢
  have HN := Lib.hid hn
  have HM := Lib.hid hm
  rw [hm] at HAR
  clear hn hm
  go_enter Tryz.func32, Tryz.ntmps32
  by_cases h0 : n = 0
  · subst h0
    have HV := Lib.hid (show R = 2 by rw [← HR.out]; rfl)
    go_wp2_with fail
    go_ret
    exact ⟨by rw [HV.out]; rfl, HB.out⟩
  have k0 : ((n : Int) == 0) = false := by simp; omega
  by_cases h64 : 64 < n
  · have HV := Lib.hid (show R = 5 by rw [← HR.out, if_neg h0, if_pos h64])
    have k1 : decide ((64 : Int) < (n : Int)) = true := decide_eq_true (by omega)
    go_wp2_with fail
    go_ret
    exact ⟨by rw [HV.out]; rfl, HB.out⟩
  have k1 : decide ((64 : Int) < (n : Int)) = false := decide_eq_false (by omega)
  obtain ⟨S, hS⟩ : ∃ S, ckMsL p.ms = S := ⟨_, rfl⟩
  have HR1 := Lib.hid (show (if S ≠ 0 then S else if 256 < m then 5 else ckArL p 0 p.arcs) = R by have h := HR.out; rw [if_neg h0, if_neg h64, hS] at h; exact h)
  have HS := Lib.hid hS
  clear HR hS
  go_wp2_with fail
  go_loopw [18] (fun j wr => ∃ k : Nat, k ≤ n ∧ j = .int .i64 k ∧ Below w.heap.size w wr ∧ Box wr w.heap.size 25 [.slice a1 n n1, .slice a2 m n2] ∧ ckMsL (p.ms.drop k) = S) (fun j _ => n - (intOf j).toNat)
  case atStart => exact ⟨0, by omega, rfl, HB.out, HX.out, HS.out⟩
  case round =>
    clear HB HX HS
    obtain ⟨k, hk, rfl, hbe, hx, hrel⟩ := hrel
    have HL := Lib.hid hrel
    have HBE := Lib.hid hbe
    have HXE := Lib.hid hx
    clear hrel
    obtain ⟨x0, x1, xf, xz⟩ := hx.v2
    by_cases hlt : k < n
    · have hkl : k < p.ms.length := by rw [HN.out]; exact hlt
      obtain ⟨b, off, rfl, hbb, hcells⟩ := HA1.out (by omega)
      obtain ⟨c0, c1⟩ := ((hcells k hkl).below hbe hbb).c2
      have hbz : b < wr.heap.size := by have := hbe.size; omega
      have hd := Lib.hid (ckMsL_drop p.ms k hkl)
      clear hcells hbe hx
      generalize p.ms[k] = mc at *
      obtain ⟨s, t⟩ := mc
      dsimp only at c0 c1
      have hba : Below wr.heap.size wr (wr.alloc (.cells #[.string s, .int .i64 t] 65)) := (Below.refl _ _).alloc (Nat.le_refl _) _
      have HK := Lib.hid (kindOf94 s t _ ((HWD.out wr HBE.out).later hba))
      have HMB := Lib.hid (Box.new wr #[.string s, .int .i64 t] 65)
      have HBA := Lib.hid hba
      obtain ⟨q, hq⟩ : ∃ q, kn s = q := ⟨_, rfl⟩
      rw [hq] at HK
      have HQ := Lib.hid hq
      clear hba hq
      go_wp2_with fail
      refine HK.out.mono ?_
      rintro e w3 ⟨rfl, hb3⟩
      have HB3 := Lib.hid (HBA.out.trans (hb3.mono HBA.out.size))
      obtain ⟨m0, m1, mf, mz⟩ := (HMB.out.later hb3).v2
      clear hb3
      have HS2 := Lib.hid (show (if q < 0 then 20 else if t < 0 ∨ 100000 < t then 3 else ckMsL (p.ms.drop (k + 1))) = S by have h := HL.out; rw [hd.out] at h; (try dsimp only at h); rw [HQ.out] at h; exact h)
      by_cases hq0 : q < 0
      · have d0 : decide (q < 0) = true := decide_eq_true hq0
        have HV := Lib.hid (show R = 20 by have h := HS2.out; rw [if_pos hq0] at h; rw [← HR1.out, ← h]; rfl)
        clear hq0
        go_wp2_with fail
        go_ret
        exact ⟨by rw [HV.out]; rfl, HBE.out.trans (HB3.out.mono HBE.out.size)⟩
      · have d0 : decide (q < 0) = false := decide_eq_false hq0
        by_cases ht : t < 0 ∨ 100000 < t
        · have HV := Lib.hid (show R = 3 by have h := HS2.out; rw [if_neg hq0, if_pos ht] at h; rw [← HR1.out, ← h]; rfl)
          clear hq0
          by_cases ht0 : t < 0
          · have d1 : decide (t < 0) = true := decide_eq_true ht0
            clear ht ht0
            go_wp2_with fail
            go_ret
            exact ⟨by rw [HV.out]; rfl, HBE.out.trans (HB3.out.mono HBE.out.size)⟩
          · have d1 : decide (t < 0) = false := decide_eq_false ht0
            have d2 : decide (100000 < t) = true := decide_eq_true (by omega)
            clear ht ht0
            go_wp2_with fail
            go_ret
            exact ⟨by rw [HV.out]; rfl, HBE.out.trans (HB3.out.mono HBE.out.size)⟩
        · have d1 : decide (t < 0) = false := decide_eq_false (by omega)
          have d2 : decide (100000 < t) = false := decide_eq_false (by omega)
          have HV := Lib.hid (show ckMsL (p.ms.drop (k + 1)) = S by have h := HS2.out; rw [if_neg hq0, if_neg ht] at h; exact h)
          clear hq0 ht
          go_wp2_with fail
          go_roundw
          case rel => exact ⟨k + 1, by omega, by go_num, HBE.out.trans (HB3.out.mono HBE.out.size), HXE.out.later HB3.out, HV.out⟩
          case measure => simp [intOf]; omega
    · obtain rfl : n = k := by omega
      have HS0 := Lib.hid (show S = 0 by rw [← HL.out, ← HN.out, List.drop_length]; rfl)
      clear hbe hx
      by_cases h256 : 256 < m
      · have k2 : decide ((256 : Int) < (m : Int)) = true := decide_eq_true (by omega)
        have HV := Lib.hid (show R = 5 by rw [← HR1.out, HS0.out, if_neg (by simp), if_pos h256])
        go_wp2_with fail
        go_ret
        exact ⟨by rw [HV.out]; rfl, HBE.out⟩
      have k2 : decide ((256 : Int) < (m : Int)) = false := decide_eq_false (by omega)
      have HR2 := Lib.hid (show ckArL p 0 (p.arcs.drop 0) = R by rw [← HR1.out, HS0.out, if_neg (by simp), if_neg h256, List.drop_zero])
      clear HR1 HL HS0
      go_wp2_with fail
      go_loopw [41] (fun j wr => ∃ k : Nat, k ≤ m ∧ j = .int .i64 k ∧ Below w.heap.size w wr ∧ Box wr w.heap.size 25 [.slice a1 n n1, .slice a2 m n2] ∧ ckArL p k (p.arcs.drop k) = R) (fun j _ => m - (intOf j).toNat)
      case atStart => exact ⟨0, by omega, rfl, HBE.out, HXE.out, HR2.out⟩
      case round =>
        clear HBE HXE HR2 x0 x1 xf xz
        obtain ⟨k, hk, rfl, hbe, hx, hrel⟩ := hrel
        have HL := Lib.hid hrel
        have HBE := Lib.hid hbe
        have HXE := Lib.hid hx
        clear hrel
        obtain ⟨x0, x1, xf, xz⟩ := hx.v2
        by_cases hlt : k < m
        · have hkl : k < p.arcs.length := by rw [HM.out]; exact hlt
          obtain ⟨b, off, rfl, hbb, hcells⟩ := HA2.out (by omega)
          obtain ⟨c0, c1⟩ := ((hcells k hkl).below hbe hbb).c2
          have hbz : b < wr.heap.size := by have := hbe.size; omega
          have hd := Lib.hid (ckArL_drop p k hkl)
          have hnp : 0 < p.ms.length := by rw [HN.out]; omega
          obtain ⟨b1, off1, hat, hbb1, hcells1⟩ := HA1.out hnp
          clear hnp
          subst hat
          have HC1 := Lib.hid hcells1
          clear hcells hbe hx hcells1
          generalize p.arcs[k] = ar at *
          obtain ⟨fr, to⟩ := ar
          dsimp only at c0 c1
          have hba : Below wr.heap.size wr (wr.alloc (.cells #[.int .i64 fr, .int .i64 to] 123)) := (Below.refl _ _).alloc (Nat.le_refl _) _
          have HMB := Lib.hid (Box.new wr #[.int .i64 fr, .int .i64 to] 123)
          have HXA := Lib.hid (HXE.out.later hba)
          have HBA := Lib.hid (HBE.out.trans (hba.mono HBE.out.size))
          have HI := Lib.hid (fun (x : Int) (w' : World) => is101 (some ⟨b1, off1, none⟩) n n1 (.slice (some ⟨b, off, none⟩) m n2) x w')
          have HC := Lib.hid (show ckAr p k ⟨fr, to⟩ = if inN n fr = false ∨ inN n to = false then 10 else if fr = to ∨ kAt p to = 0 ∨ kAt p fr = 2 then 1 else if (⟨fr, to⟩ : Ar) ∈ p.arcs.take k then 9 else 0 by unfold ckAr; rw [HN.out])
          clear hba
          obtain ⟨q1, hq1⟩ : ∃ q, inN n fr = q := ⟨_, rfl⟩
          obtain ⟨q2, hq2⟩ : ∃ q, inN n to = q := ⟨_, rfl⟩
          have HQ1 := Lib.hid hq1
          have HQ2 := Lib.hid hq2
          clear hq1 hq2
          go_wp2_with fail
          rw [HQ1.out, HQ2.out] at HC
          refine (HI.out fr _).mono ?_
          rintro e w3 ⟨rfl, hb3⟩
          rw [HQ1.out]
          have HB3 := Lib.hid (HBA.out.trans (hb3.mono HBA.out.size))
          have HM3 := Lib.hid (HMB.out.later hb3)
          have HX3 := Lib.hid (HXA.out.later hb3)
          obtain ⟨m0, m1, mf, mz⟩ := HM3.out.v2
          obtain ⟨x0, x1, xf, xz⟩ := HX3.out.v2
          clear hb3 HMB HXA HBA
          cases q1 with
          | false =>
            have HV := Lib.hid (show R = 10 by rw [← HL.out, hd.out, HC.out]; simp)
            go_wp2_with fail
            go_ret
            exact ⟨by rw [HV.out]; rfl, HB3.out⟩
          | true =>
          go_wp2_with fail
          refine (HI.out to _).mono ?_
          rintro e w4 ⟨rfl, hb4⟩
          rw [HQ2.out]
          have HB4 := Lib.hid (HB3.out.trans (hb4.mono HB3.out.size))
          have HM4 := Lib.hid (HM3.out.later hb4)
          have HX4 := Lib.hid (HX3.out.later hb4)
          clear m0 m1 mf mz x0 x1 xf xz
          obtain ⟨m0, m1, mf, mz⟩ := HM4.out.v2
          obtain ⟨x0, x1, xf, xz⟩ := HX4.out.v2
          clear hb4 HM3 HX3 HB3
          cases q2 with
          | false =>
            have HV := Lib.hid (show R = 10 by rw [← HL.out, hd.out, HC.out]; simp)
            go_wp2_with fail
            go_ret
            exact ⟨by rw [HV.out]; rfl, HB4.out⟩
          | true =>
          have HC2 := Lib.hid (show ckAr p k ⟨fr, to⟩ = if fr = to ∨ kAt p to = 0 ∨ kAt p fr = 2 then 1 else if (⟨fr, to⟩ : Ar) ∈ p.arcs.take k then 9 else 0 by rw [HC.out]; simp)
          clear HC
          by_cases hft : fr = to
          · have d1 : (fr == to) = true := by simp [hft]
            have HV := Lib.hid (show R = 1 by rw [← HL.out, hd.out, HC2.out, if_pos (Or.inl hft)]; simp)
            clear hft
            go_wp2_with fail
            go_ret
            exact ⟨by rw [HV.out]; rfl, HB4.out⟩
          have d1 : (fr == to) = false := by simp [hft]
          obtain ⟨kf, rfl, hkf⟩ := inN_nat HQ1.out
          obtain ⟨kt, rfl, hkt⟩ := inN_nat HQ2.out
          have HN' := Lib.hid HN.out
          have hkf' : kf < p.ms.length := by rw [HN.out]; exact hkf
          have hkt' : kt < p.ms.length := by rw [HN.out]; exact hkt
          have HKT := Lib.hid (kAt_nat hkt')
          have HKF := Lib.hid (kAt_nat hkf')
          obtain ⟨ct0, ct1⟩ := ((HC1.out kt hkt').below HB4.out hbb1).c2
          have HCF := Lib.hid (HC1.out kf hkf')
          generalize p.ms[kt] = mt at *
          generalize p.ms[kf] = mf1 at *
          clear hkf' hkt' HC1
          obtain ⟨st, tt⟩ := mt
          obtain ⟨sf, tf⟩ := mf1
          dsimp only at ct0 ct1
          have hb1z : b1 < w4.heap.size := by have := HB4.out.size; omega
          have HK := Lib.hid (fun s t (w' : World) (hb : Below w.heap.size w w') => kindOf94 s t w' (HWD.out w' hb))
          obtain ⟨q3, hq3⟩ : ∃ q, kn st = q := ⟨_, rfl⟩
          have HQ3 := Lib.hid hq3
          clear hq3
          go_wp2_with fail
          refine (HK.out st tt _ HB4.out).mono ?_
          rintro e w5 ⟨rfl, hb5⟩
          rw [HQ3.out]
          have HB5 := Lib.hid (HB4.out.trans (hb5.mono HB4.out.size))
          have HM5 := Lib.hid (HM4.out.later hb5)
          have HX5 := Lib.hid (HX4.out.later hb5)
          clear m0 m1 mf mz x0 x1 xf xz ct0 ct1 hb1z
          obtain ⟨m0, m1, mf, mz⟩ := HM5.out.v2
          obtain ⟨x0, x1, xf, xz⟩ := HX5.out.v2
          obtain ⟨cf0, cf1⟩ := (HCF.out.below HB5.out hbb1).c2
          dsimp only at cf0 cf1
          have hb1z : b1 < w5.heap.size := by have := HB5.out.size; omega
          clear hb5 HM4 HX4 HB4
          by_cases h30 : q3 = 0
          · subst h30
            have HV := Lib.hid (show R = 1 by rw [← HL.out, hd.out, HC2.out, if_pos (Or.inr (Or.inl (by rw [HKT.out]; exact HQ3.out)))]; simp)
            go_wp2_with fail
            go_ret
            exact ⟨by rw [HV.out]; rfl, HB5.out⟩
          have d3 : (q3 == 0) = false := by simp [h30]
          obtain ⟨q4, hq4⟩ : ∃ q, kn sf = q := ⟨_, rfl⟩
          have HQ4 := Lib.hid hq4
          clear hq4
          go_wp2_with fail
          refine (HK.out sf tf _ HB5.out).mono ?_
          rintro e w6 ⟨rfl, hb6⟩
          rw [HQ4.out]
          have HB6 := Lib.hid (HB5.out.trans (hb6.mono HB5.out.size))
          have HM6 := Lib.hid (HM5.out.later hb6)
          have HX6 := Lib.hid (HX5.out.later hb6)
          clear m0 m1 mf mz x0 x1 xf xz cf0 cf1 hb1z
          obtain ⟨m0, m1, mf, mz⟩ := HM6.out.v2
          obtain ⟨x0, x1, xf, xz⟩ := HX6.out.v2
          clear hb6 HM5 HX5 HB5
          by_cases h42 : q4 = 2
          · subst h42
            have HV := Lib.hid (show R = 1 by rw [← HL.out, hd.out, HC2.out, if_pos (Or.inr (Or.inr (by rw [HKF.out]; exact HQ4.out)))]; simp)
            go_wp2_with fail
            go_ret
            exact ⟨by rw [HV.out]; rfl, HB6.out⟩
          have d4 : (q4 == 2) = false := by simp [h42]
          have HC3 := Lib.hid (show ckAr p k ⟨kf, kt⟩ = if (⟨kf, kt⟩ : Ar) ∈ p.arcs.take k then 9 else 0 by rw [HC2.out, if_neg]; rw [HKT.out, HKF.out, HQ3.out, HQ4.out]; exact fun h => h.elim hft (fun h => h.elim h30 h42))
          clear HC2 HKT HKF HQ3 HQ4 hft h30 h42 HCF
          have hkc : (k : Int) ≤ n2 := by omega
          have HSl := Lib.hid (HAR.out.take k (by rw [HM.out]; omega))
          have HCN := Lib.hid (fun (w' : World) (hb : Below w.heap.size w w') => contains102 _ (p.arcs.take k) ⟨kf, kt⟩ w' (HSl.out.later hb))
          obtain ⟨q5, hq5⟩ : ∃ q, decide ((⟨kf, kt⟩ : Ar) ∈ p.arcs.take k) = q := ⟨_, rfl⟩
          have HQ5 := Lib.hid hq5
          rw [hq5] at HCN
          clear hq5
          go_wp2_with fail
          refine wp_region_head_drew 5 (by kernel_rfl) (by kernel_rfl) ?_
          simp only [List.take_succ_cons, List.take_zero, List.drop_succ_cons, List.drop_zero]
          repeat go_big_quiet_step (fail)
          refine wpQuiet_nil ?_
          rintro _ ⟨nq, rfl⟩
          go_wp2_with fail
          refine (HCN.out _ (below_drewN HB6.out nq)).mono ?_
          rintro e w7 ⟨rfl, hb7⟩
          have HB7 := Lib.hid ((below_drewN HB6.out nq).trans (hb7.mono (below_drewN HB6.out nq).size))
          have HX7 := Lib.hid ((HX6.out.later (below_drewN (Below.refl _ _) nq)).later hb7)
          clear hb7
          obtain ⟨x0, x1, xf, xz⟩ := HX7.out.v2
          cases q5 with
          | true =>
            have HV := Lib.hid (show R = 9 by rw [← HL.out, hd.out, HC3.out, if_pos (of_decide_eq_true HQ5.out)]; simp)
            go_wp2_with fail
            go_ret
            exact ⟨by rw [HV.out]; rfl, HB7.out⟩
          | false =>
            have HV := Lib.hid (show ckArL p (k + 1) (p.arcs.drop (k + 1)) = R by rw [← HL.out, hd.out, HC3.out, if_neg (of_decide_eq_false HQ5.out)]; simp)
            go_wp2_with fail
            go_roundw
            case rel => exact ⟨k + 1, by omega, by go_num, HB7.out, HX7.out, HV.out⟩
            case measure => simp [intOf]; omega
        · obtain rfl : m = k := by omega
          have HV := Lib.hid (show R = 0 by rw [← HL.out, ← HM.out, List.drop_length]; rfl)
          clear hbe hx
          go_wp2_with fail
          go_ret
          exact ⟨by rw [HV.out]; rfl, HBE.out⟩
end Go.Proofs.YtahpdkkpnkhnhaaGreatDoor

/- Walks: ref.CheckPlant. -/
namespace Go.Proofs.YtahpdkkpnkhnhaaGreatDoor
open Go Go.Proofs Go.RowKit Go.Shelf

theorem kn_w0 (s : ByteArray) : decide (kn s = 0) = isW s 0 := by
  rw [kn_eq]
  cases h0 : isW s 0
  · simp only [Bool.false_eq_true, if_false]
    generalize isW s 1 = b1
    generalize isW s 2 = b2
    generalize isW s 3 = b3
    generalize isW s 4 = b4
    generalize isW s 5 = b5
    generalize isW s 6 = b6
    generalize isW s 7 = b7
    revert b1 b2 b3 b4 b5 b6 b7
    decide
  · rfl
theorem kn_w2 (s : ByteArray) : decide (kn s = 2) = isW s 2 := by
  cases h2 : isW s 2
  · rw [kn_eq, h2]
    simp only [Bool.false_eq_true, if_false]
    generalize isW s 0 = b0
    generalize isW s 1 = b1
    generalize isW s 3 = b3
    generalize isW s 4 = b4
    generalize isW s 5 = b5
    generalize isW s 6 = b6
    generalize isW s 7 = b7
    revert b0 b1 b3 b4 b5 b6 b7
    decide
  · rw [kn_eq, isW_no (j := 0) (by decide) h2 (by decide) (by decide), isW_no (j := 1) (by decide) h2 (by decide) (by decide), h2]
    rfl

set_option maxRecDepth 100000 in
set_option maxHeartbeats 1000000 in
theorem ckPlant19 (w : World) (v1 v2 : Value) (p : Pl) (hv : PlR w w.heap.size v1 v2 p) : Calls Tryz.prog 19 #[.agg #[v1, v2]] w (Ret (.int .i64 (ckPlant p)) w) := by
  have HAR := Lib.hid hv.arcs
  obtain ⟨⟨a1, n1, rfl, hl1, hA1⟩, ⟨a2, n2, rfl, hl2, hA2⟩⟩ := hv
  have HA1 := Lib.hid hA1
  have HA2 := Lib.hid hA2
  clear hA1 hA2
  obtain ⟨h11, h12⟩ := hl1
  obtain ⟨h21, h22⟩ := hl2
  obtain ⟨R, hR⟩ : ∃ R, ckPlant p = R := ⟨_, rfl⟩
  rw [hR]
  unfold ckPlant at hR
  have HR := Lib.hid hR
  clear hR
  have HB := Lib.hid ((Below.refl w.heap.size w).alloc (Nat.le_refl _) (.cells #[.slice a1 p.ms.length n1, .slice a2 p.arcs.length n2] 25))
  have HX := Lib.hid (Box.new w #[.slice a1 p.ms.length n1, .slice a2 p.arcs.length n2] 25)
  obtain ⟨n, hn⟩ : ∃ n, p.ms.length = n := ⟨_, rfl⟩
  obtain ⟨m, hm⟩ : ∃ m, p.arcs.length = m := ⟨_, rfl⟩
  rw [hn] at HR HB HX h11 h12 ⊢
  rw [hm] at HR HB HX h21 h22 ⊢
  have HN := Lib.hid hn
  have HM := Lib.hid hm
  rw [hm] at HAR
  clear hn hm
  go_enter Tryz.func19, Tryz.ntmps19
  by_cases h0 : n = 0
  · subst h0
    have HV := Lib.hid (show R = 2 by rw [← HR.out]; rfl)
    go_wp2_with fail
    go_ret
    exact ⟨by rw [HV.out]; rfl, HB.out⟩
  have k0 : ((n : Int) == 0) = false := by simp; omega
  by_cases h64 : 64 < n
  · have HV := Lib.hid (show R = 5 by rw [← HR.out, if_neg h0, if_pos h64])
    have k1 : decide ((64 : Int) < (n : Int)) = true := decide_eq_true (by omega)
    go_wp2_with fail
    go_ret
    exact ⟨by rw [HV.out]; rfl, HB.out⟩
  have k1 : decide ((64 : Int) < (n : Int)) = false := decide_eq_false (by omega)
  obtain ⟨S, hS⟩ : ∃ S, ckMsL p.ms = S := ⟨_, rfl⟩
  have HR1 := Lib.hid (show (if S ≠ 0 then S else if 256 < m then 5 else ckArL p 0 p.arcs) = R by have h := HR.out; rw [if_neg h0, if_neg h64, hS] at h; exact h)
  have HS := Lib.hid hS
  clear HR hS
  go_wp2_with fail
  go_loopw [4] (fun j wr => ∃ k : Nat, k ≤ n ∧ j = .int .i64 k ∧ Below w.heap.size w wr ∧ Box wr w.heap.size 25 [.slice a1 n n1, .slice a2 m n2] ∧ ckMsL (p.ms.drop k) = S) (fun j _ => n - (intOf j).toNat)
  case atStart => exact ⟨0, by omega, rfl, HB.out, HX.out, HS.out⟩
  case round =>
    clear HB HX HS
    obtain ⟨k, hk, rfl, hbe, hx, hrel⟩ := hrel
    have HL := Lib.hid hrel
    have HBE := Lib.hid hbe
    have HXE := Lib.hid hx
    clear hrel
    obtain ⟨x0, x1, xf, xz⟩ := hx.v2
    by_cases hlt : k < n
    · have hkl : k < p.ms.length := by rw [HN.out]; exact hlt
      obtain ⟨b, off, rfl, hbb, hcells⟩ := HA1.out (by omega)
      obtain ⟨c0, c1⟩ := ((hcells k hkl).below hbe hbb).c2
      have hbz : b < wr.heap.size := by have := hbe.size; omega
      have hd := Lib.hid (ckMsL_drop p.ms k hkl)
      clear hcells hbe hx
      generalize p.ms[k] = mc at *
      obtain ⟨s, t⟩ := mc
      dsimp only at c0 c1
      have hba : Below wr.heap.size wr (wr.alloc (.cells #[.string s, .int .i64 t] 65)) := (Below.refl _ _).alloc (Nat.le_refl _) _
      have HK := Lib.hid (kn_some s)
      have HF1 := Lib.hid (fun w => isConveyor42 s w)
      have HF2 := Lib.hid (fun w => isFirst86 s w)
      have HF3 := Lib.hid (fun w => isLast87 s w)
      have HMB := Lib.hid (Box.new wr #[.string s, .int .i64 t] 65)
      have HB3 := Lib.hid (HBE.out.trans (hba.mono HBE.out.size))
      have HX3 := Lib.hid (HXE.out.later hba)
      obtain ⟨m0, m1, mf, mz⟩ := HMB.out.v2
      obtain ⟨qc, hqc⟩ : ∃ q, cvB s = q := ⟨_, rfl⟩
      obtain ⟨qb, hqb⟩ : ∃ q, bgB s = q := ⟨_, rfl⟩
      obtain ⟨qe, hqe⟩ : ∃ q, enB s = q := ⟨_, rfl⟩
      rw [hqc] at HK HF1
      rw [hqb] at HK HF2
      rw [hqe] at HK HF3
      obtain ⟨q, hq⟩ : ∃ q, kn s = q := ⟨_, rfl⟩
      rw [hq] at HK
      have HS2 := Lib.hid (show (if q < 0 then 20 else if t < 0 ∨ 100000 < t then 3 else ckMsL (p.ms.drop (k + 1))) = S by have h := HL.out; rw [hd.out] at h; (try dsimp only at h); rw [hq] at h; exact h)
      have HS3 := Lib.hid (show (qc || qb || qe) = true → (if t < 0 ∨ 100000 < t then 3 else ckMsL (p.ms.drop (k + 1))) = S from fun e => by
        have h1 := of_decide_eq_true (HK.out.trans e)
        have h := HS2.out
        rw [if_neg (by omega)] at h
        exact h)
      clear hba hq hqc hqb hqe HMB
      have HTL : Hid (t < 0 ∨ 100000 < t → S = 3 → R = 3) := Lib.hid (fun _ h => by rw [← HR1.out, h]; rfl)
      obtain ⟨y0, y1, yf, yz⟩ := HX3.out.v2
      go_wp2_with fail
      refine (HF1.out _).mono ?_
      rintro e w3 ⟨rfl, rfl⟩
      cases qc with
      | true =>
        have HS4 := Lib.hid (HS3.out rfl)
        clear HS3 HS2 HK HF1 HF2 HF3
        by_cases ht0 : t < 0
        · have d1 : decide (t < 0) = true := decide_eq_true ht0
          have HV := Lib.hid (show R = 3 from HTL.out (Or.inl ht0) (by rw [← HS4.out, if_pos (Or.inl ht0)]))
          clear ht0
          go_wp2_with fail
          go_ret
          exact ⟨by rw [HV.out]; rfl, HB3.out⟩
        have d1 : decide (t < 0) = false := decide_eq_false ht0
        by_cases ht1 : 100000 < t
        · have d2 : decide (100000 < t) = true := decide_eq_true ht1
          have HV := Lib.hid (show R = 3 from HTL.out (Or.inr ht1) (by rw [← HS4.out, if_pos (Or.inr ht1)]))
          clear ht0 ht1
          go_wp2_with fail
          go_ret
          exact ⟨by rw [HV.out]; rfl, HB3.out⟩
        have d2 : decide (100000 < t) = false := decide_eq_false ht1
        have HV := Lib.hid (show ckMsL (p.ms.drop (k + 1)) = S by rw [← HS4.out, if_neg (fun h => h.elim ht0 ht1)])
        clear ht0 ht1
        go_wp2_with fail
        go_roundw
        case rel => exact ⟨k + 1, by omega, by go_num, HB3.out, HX3.out, HV.out⟩
        case measure => simp [intOf]; omega
      | false =>
        go_wp2_with fail
        refine (HF2.out _).mono ?_
        rintro e w3 ⟨rfl, rfl⟩
        cases qb with
        | true =>
          have HS4 := Lib.hid (HS3.out rfl)
          clear HS3 HS2 HK HF1 HF2 HF3
          by_cases ht0 : t < 0
          · have d1 : decide (t < 0) = true := decide_eq_true ht0
            have HV := Lib.hid (show R = 3 from HTL.out (Or.inl ht0) (by rw [← HS4.out, if_pos (Or.inl ht0)]))
            clear ht0
            go_wp2_with fail
            go_ret
            exact ⟨by rw [HV.out]; rfl, HB3.out⟩
          have d1 : decide (t < 0) = false := decide_eq_false ht0
          by_cases ht1 : 100000 < t
          · have d2 : decide (100000 < t) = true := decide_eq_true ht1
            have HV := Lib.hid (show R = 3 from HTL.out (Or.inr ht1) (by rw [← HS4.out, if_pos (Or.inr ht1)]))
            clear ht0 ht1
            go_wp2_with fail
            go_ret
            exact ⟨by rw [HV.out]; rfl, HB3.out⟩
          have d2 : decide (100000 < t) = false := decide_eq_false ht1
          have HV := Lib.hid (show ckMsL (p.ms.drop (k + 1)) = S by rw [← HS4.out, if_neg (fun h => h.elim ht0 ht1)])
          clear ht0 ht1
          go_wp2_with fail
          go_roundw
          case rel => exact ⟨k + 1, by omega, by go_num, HB3.out, HX3.out, HV.out⟩
          case measure => simp [intOf]; omega
        | false =>
          go_wp2_with fail
          refine (HF3.out _).mono ?_
          rintro e w3 ⟨rfl, rfl⟩
          cases qe with
          | true =>
            have HS4 := Lib.hid (HS3.out rfl)
            clear HS3 HS2 HK HF1 HF2 HF3
            by_cases ht0 : t < 0
            · have d1 : decide (t < 0) = true := decide_eq_true ht0
              have HV := Lib.hid (show R = 3 from HTL.out (Or.inl ht0) (by rw [← HS4.out, if_pos (Or.inl ht0)]))
              clear ht0
              go_wp2_with fail
              go_ret
              exact ⟨by rw [HV.out]; rfl, HB3.out⟩
            have d1 : decide (t < 0) = false := decide_eq_false ht0
            by_cases ht1 : 100000 < t
            · have d2 : decide (100000 < t) = true := decide_eq_true ht1
              have HV := Lib.hid (show R = 3 from HTL.out (Or.inr ht1) (by rw [← HS4.out, if_pos (Or.inr ht1)]))
              clear ht0 ht1
              go_wp2_with fail
              go_ret
              exact ⟨by rw [HV.out]; rfl, HB3.out⟩
            have d2 : decide (100000 < t) = false := decide_eq_false ht1
            have HV := Lib.hid (show ckMsL (p.ms.drop (k + 1)) = S by rw [← HS4.out, if_neg (fun h => h.elim ht0 ht1)])
            clear ht0 ht1
            go_wp2_with fail
            go_roundw
            case rel => exact ⟨k + 1, by omega, by go_num, HB3.out, HX3.out, HV.out⟩
            case measure => simp [intOf]; omega
          | false =>
            have HV := Lib.hid (show R = 20 by
              have h1 := of_decide_eq_false HK.out
              have h := HS2.out
              rw [if_pos (by omega)] at h
              rw [← HR1.out, ← h]; rfl)
            clear HS3 HS2 HK HF1 HF2 HF3
            go_wp2_with fail
            go_ret
            exact ⟨by rw [HV.out]; rfl, HB3.out⟩
    · obtain rfl : n = k := by omega
      have HS0 := Lib.hid (show S = 0 by rw [← HL.out, ← HN.out, List.drop_length]; rfl)
      clear hbe hx
      by_cases h256 : 256 < m
      · have k2 : decide ((256 : Int) < (m : Int)) = true := decide_eq_true (by omega)
        have HV := Lib.hid (show R = 5 by rw [← HR1.out, HS0.out, if_neg (by simp), if_pos h256])
        go_wp2_with fail
        go_ret
        exact ⟨by rw [HV.out]; rfl, HBE.out⟩
      have k2 : decide ((256 : Int) < (m : Int)) = false := decide_eq_false (by omega)
      have HR2 := Lib.hid (show ckArL p 0 (p.arcs.drop 0) = R by rw [← HR1.out, HS0.out, if_neg (by simp), if_neg h256, List.drop_zero])
      clear HR1 HL HS0
      go_wp2_with fail
      go_loopw [6] (fun j wr => ∃ k : Nat, k ≤ m ∧ j = .int .i64 k ∧ Below w.heap.size w wr ∧ Box wr w.heap.size 25 [.slice a1 n n1, .slice a2 m n2] ∧ ckArL p k (p.arcs.drop k) = R) (fun j _ => m - (intOf j).toNat)
      case atStart => exact ⟨0, by omega, rfl, HBE.out, HXE.out, HR2.out⟩
      case round =>
        clear HBE HXE HR2 x0 x1 xf xz
        obtain ⟨k, hk, rfl, hbe, hx, hrel⟩ := hrel
        have HL := Lib.hid hrel
        have HBE := Lib.hid hbe
        have HXE := Lib.hid hx
        clear hrel
        obtain ⟨x0, x1, xf, xz⟩ := hx.v2
        by_cases hlt : k < m
        · have hkl : k < p.arcs.length := by rw [HM.out]; exact hlt
          obtain ⟨b, off, hat2, hbb, hcells⟩ := HA2.out (by omega)
          subst hat2
          obtain ⟨c0, c1⟩ := ((hcells k hkl).below hbe hbb).c2
          have hbz : b < wr.heap.size := by have := hbe.size; omega
          have hd := Lib.hid (ckArL_drop p k hkl)
          have hnp : 0 < p.ms.length := by rw [HN.out]; omega
          obtain ⟨b1, off1, hat, hbb1, hcells1⟩ := HA1.out hnp
          clear hnp
          subst hat
          have HC1 := Lib.hid hcells1
          have HC0 := Lib.hid hcells
          clear hcells hbe hx hcells1
          generalize p.arcs[k] = ar at *
          obtain ⟨fr, to⟩ := ar
          dsimp only at c0 c1
          have hba : Below wr.heap.size wr (wr.alloc (.cells #[.int .i64 fr, .int .i64 to] 123)) := (Below.refl _ _).alloc (Nat.le_refl _) _
          have HMB := Lib.hid (Box.new wr #[.int .i64 fr, .int .i64 to] 123)
          have HXA := Lib.hid (HXE.out.later hba)
          have HBA := Lib.hid (HBE.out.trans (hba.mono HBE.out.size))
          have HC := Lib.hid (show ckAr p k ⟨fr, to⟩ = if inN n fr = false ∨ inN n to = false then 10 else if fr = to ∨ kAt p to = 0 ∨ kAt p fr = 2 then 1 else if (⟨fr, to⟩ : Ar) ∈ p.arcs.take k then 9 else 0 by unfold ckAr; rw [HN.out])
          clear hba
          obtain ⟨y0, y1, yf, yz⟩ := HXA.out.v2
          obtain ⟨m0, m1, mf, mz⟩ := HMB.out.v2
          have hb1z : b1 < (wr.alloc (.cells #[.int .i64 fr, .int .i64 to] 123)).heap.size := by have := HBA.out.size; omega
          by_cases g1 : fr < 0
          · have d1 : decide (fr < 0) = true := decide_eq_true g1
            have HV := Lib.hid (show R = 10 by rw [← HL.out, hd.out, HC.out, if_pos (Or.inl (by unfold inN; simp; omega))]; simp)
            clear g1
            go_wp2_with fail
            go_ret
            exact ⟨by rw [HV.out]; rfl, HBA.out⟩
          have d1 : decide (fr < 0) = false := decide_eq_false g1
          by_cases g2 : (n : Int) ≤ fr
          · have d2 : decide ((n : Int) ≤ fr) = true := decide_eq_true g2
            have HV := Lib.hid (show R = 10 by rw [← HL.out, hd.out, HC.out, if_pos (Or.inl (by unfold inN; simp; omega))]; simp)
            clear g2
            go_wp2_with fail
            go_ret
            exact ⟨by rw [HV.out]; rfl, HBA.out⟩
          have d2 : decide ((n : Int) ≤ fr) = false := decide_eq_false g2
          by_cases g3 : to < 0
          · have d3 : decide (to < 0) = true := decide_eq_true g3
            have HV := Lib.hid (show R = 10 by rw [← HL.out, hd.out, HC.out, if_pos (Or.inr (by unfold inN; simp; omega))]; simp)
            clear g3
            go_wp2_with fail
            go_ret
            exact ⟨by rw [HV.out]; rfl, HBA.out⟩
          have d3 : decide (to < 0) = false := decide_eq_false g3
          by_cases g4 : (n : Int) ≤ to
          · have d4 : decide ((n : Int) ≤ to) = true := decide_eq_true g4
            have HV := Lib.hid (show R = 10 by rw [← HL.out, hd.out, HC.out, if_pos (Or.inr (by unfold inN; simp; omega))]; simp)
            clear g4
            go_wp2_with fail
            go_ret
            exact ⟨by rw [HV.out]; rfl, HBA.out⟩
          have d4 : decide ((n : Int) ≤ to) = false := decide_eq_false g4
          have HC2 := Lib.hid (show ckAr p k ⟨fr, to⟩ = if fr = to ∨ kAt p to = 0 ∨ kAt p fr = 2 then 1 else if (⟨fr, to⟩ : Ar) ∈ p.arcs.take k then 9 else 0 by rw [HC.out, if_neg]; unfold inN; simp; omega)
          clear HC
          by_cases hft : fr = to
          · have d5 : (fr == to) = true := by simp [hft]
            have HV := Lib.hid (show R = 1 by rw [← HL.out, hd.out, HC2.out, if_pos (Or.inl hft)]; simp)
            clear hft
            go_wp2_with fail
            go_ret
            exact ⟨by rw [HV.out]; rfl, HBA.out⟩
          have d5 : (fr == to) = false := by simp [hft]
          obtain ⟨kf, rfl⟩ : ∃ x : Nat, fr = x := ⟨fr.toNat, by omega⟩
          obtain ⟨kt, rfl⟩ : ∃ x : Nat, to = x := ⟨to.toNat, by omega⟩
          have hkf : kf < n := by omega
          have hkt : kt < n := by omega
          clear g1 g2 g3 g4
          have hkf' : kf < p.ms.length := by rw [HN.out]; exact hkf
          have hkt' : kt < p.ms.length := by rw [HN.out]; exact hkt
          have HKT := Lib.hid (kAt_nat hkt')
          have HKF := Lib.hid (kAt_nat hkf')
          obtain ⟨ct0, ct1⟩ := ((HC1.out kt hkt').below HBA.out hbb1).c2
          obtain ⟨cf0, cf1⟩ := ((HC1.out kf hkf').below HBA.out hbb1).c2
          generalize p.ms[kt] = mt at *
          generalize p.ms[kf] = mf1 at *
          clear hkf' hkt' HC1
          obtain ⟨st, tt⟩ := mt
          obtain ⟨sf, tf⟩ := mf1
          dsimp only at ct0 ct1 cf0 cf1
          obtain ⟨q3, hq3⟩ : ∃ q, (st.toList == [112, 105, 116]) = q := ⟨_, rfl⟩
          obtain ⟨q4, hq4⟩ : ∃ q, (sf.toList == [115, 112, 111, 117, 116]) = q := ⟨_, rfl⟩
          have HQ3 := Lib.hid (show decide (kAt p kt = 0) = q3 by rw [HKT.out]; exact (kn_w0 st).trans hq3)
          have HQ4 := Lib.hid (show decide (kAt p kf = 2) = q4 by rw [HKF.out]; exact (kn_w2 sf).trans hq4)
          clear HKT HKF
          cases q3 with
          | true =>
            have HV := Lib.hid (show R = 1 by rw [← HL.out, hd.out, HC2.out, if_pos (Or.inr (Or.inl (of_decide_eq_true HQ3.out)))]; simp)
            go_wp2_with fail
            go_ret
            exact ⟨by rw [HV.out]; rfl, HBA.out⟩
          | false =>
          cases q4 with
          | true =>
            have HV := Lib.hid (show R = 1 by rw [← HL.out, hd.out, HC2.out, if_pos (Or.inr (Or.inr (of_decide_eq_true HQ4.out)))]; simp)
            go_wp2_with fail
            go_ret
            exact ⟨by rw [HV.out]; rfl, HBA.out⟩
          | false =>
          have HC3 := Lib.hid (show ckAr p k ⟨kf, kt⟩ = if (⟨kf, kt⟩ : Ar) ∈ p.arcs.take k then 9 else 0 by rw [HC2.out, if_neg]; exact fun h => h.elim hft (fun h => h.elim (of_decide_eq_false HQ3.out) (of_decide_eq_false HQ4.out)))
          obtain ⟨Q, hQ⟩ : ∃ q, decide ((⟨kf, kt⟩ : Ar) ∈ p.arcs.take k) = q := ⟨_, rfl⟩
          have HQ5 := Lib.hid hQ
          clear HC2 HQ3 HQ4 hft hQ
          have H9 : Hid (Q = true → R = 9) := Lib.hid (fun e => by rw [← HL.out, hd.out, HC3.out, if_pos (of_decide_eq_true (HQ5.out.trans e))]; simp)
          have H10 : Hid (Q = false → ckArL p (k + 1) (p.arcs.drop (k + 1)) = R) := Lib.hid (fun e => by rw [← HL.out, hd.out, HC3.out, if_neg (of_decide_eq_false (HQ5.out.trans e))]; simp)
          clear HC3
          go_wp2_with fail
          clear hq3 hq4 ct0 ct1 cf0 cf1 hb1z
          go_loopw [8] (fun j wr' => ∃ i : Nat, i ≤ k ∧ j = .int .i64 i ∧ Below w.heap.size w wr' ∧ Box wr' w.heap.size 25 [.slice (some ⟨b1, off1, none⟩) n n1, .slice (some ⟨b, off, none⟩) m n2] ∧ Box wr' wr.heap.size 123 [.int .i64 kf, .int .i64 kt] ∧ decide ((⟨kf, kt⟩ : Ar) ∈ (p.arcs.take k).drop i) = Q) (fun j _ => k - (intOf j).toNat)
          case atStart => exact ⟨0, by omega, rfl, HBA.out, HXA.out, HMB.out, HQ5.out⟩
          case round =>
            clear HBA HXA HMB HQ5 x0 x1 xf xz y0 y1 yf yz m0 m1 mf mz c0 c1 hbz
            obtain ⟨i, hi, rfl, hbi, hxi, hmi, hrel⟩ := hrel
            have HRL := Lib.hid hrel
            have HBI := Lib.hid hbi
            have HXI := Lib.hid hxi
            have HMI := Lib.hid hmi
            clear hrel
            obtain ⟨x0, x1, xf, xz⟩ := hxi.v2
            obtain ⟨m0, m1, mf, mz⟩ := hmi.v2
            by_cases hit : i < k
            · have hil : i < p.arcs.length := by rw [HM.out]; omega
              have him : i < m := by omega
              obtain ⟨c0, c1⟩ := ((HC0.out i hil).below hbi hbb).c2
              have hbz := Nat.lt_of_lt_of_le hbb hbi.size
              have hd2 := Lib.hid (show decide ((⟨kf, kt⟩ : Ar) ∈ (p.arcs.take k).drop i) = (decide ((⟨kf, kt⟩ : Ar) = p.arcs[i]) || decide ((⟨kf, kt⟩ : Ar) ∈ (p.arcs.take k).drop (i + 1))) by
                have h := mem_drop_step (p.arcs.take k) ⟨kf, kt⟩ i (by rw [List.length_take]; omega)
                rw [List.getElem_take] at h
                exact h)
              clear hbi hxi hmi
              generalize p.arcs[i] = z at *
              clear hil
              obtain ⟨zf, zt⟩ := z
              dsimp only at c0 c1
              have HD := Lib.hid (show decide ((⟨kf, kt⟩ : Ar) = ⟨zf, zt⟩) = (zf == (kf : Int) && zt == (kt : Int)) by
                rw [Bool.eq_iff_iff]; simp; constructor <;> (rintro ⟨h1, h2⟩; exact ⟨h1.symm, h2.symm⟩))
              rw [HD.out, HRL.out] at hd2
              clear HD HRL
              obtain ⟨q1, hq1⟩ : ∃ q, (zf == (kf : Int)) = q := ⟨_, rfl⟩
              obtain ⟨q2, hq2⟩ : ∃ q, (zt == (kt : Int)) = q := ⟨_, rfl⟩
              rw [hq1, hq2] at hd2
              cases q1 with
              | false =>
                have HV := Lib.hid (show decide ((⟨kf, kt⟩ : Ar) ∈ (p.arcs.take k).drop (i + 1)) = Q by rw [hd2.out]; rfl)
                go_wp2_with fail
                go_quiet (fail)
                go_wp2_with fail
                go_roundw
                case rel => exact ⟨i + 1, by omega, by go_num, below_drewN HBI.out _, HXI.out.later (below_drewN (Below.refl _ _) _), HMI.out.later (below_drewN (Below.refl _ _) _), HV.out⟩
                case measure => simp [intOf]; omega
              | true =>
                cases q2 with
                | false =>
                  have HV := Lib.hid (show decide ((⟨kf, kt⟩ : Ar) ∈ (p.arcs.take k).drop (i + 1)) = Q by rw [hd2.out]; rfl)
                  go_wp2_with fail
                  go_quiet (fail)
                  go_wp2_with fail
                  go_roundw
                  case rel => exact ⟨i + 1, by omega, by go_num, below_drewN HBI.out _, HXI.out.later (below_drewN (Below.refl _ _) _), HMI.out.later (below_drewN (Below.refl _ _) _), HV.out⟩
                  case measure => simp [intOf]; omega
                | true =>
                  have HV := Lib.hid (H9.out (by rw [hd2.out]; rfl))
                  go_wp2_with fail
                  go_quiet (fail)
                  go_wp2_with fail
                  go_ret
                  exact ⟨by rw [HV.out]; rfl, below_drewN HBI.out _⟩
            · obtain rfl : k = i := by omega
              have HV := Lib.hid (H10.out (by rw [← HRL.out, List.drop_of_length_le (by rw [List.length_take]; omega)]; simp))
              clear hbi hxi hmi
              go_wp2_with fail
              go_roundw
              case rel => exact ⟨k + 1, by omega, by go_num, HBI.out, HXI.out, HV.out⟩
              case measure => simp [intOf]; omega
        · obtain rfl : m = k := by omega
          have HV := Lib.hid (show R = 0 by rw [← HL.out, ← HM.out, List.drop_length]; rfl)
          clear hbe hx
          go_wp2_with fail
          go_ret
          exact ⟨by rw [HV.out]; rfl, HBE.out⟩
end Go.Proofs.YtahpdkkpnkhnhaaGreatDoor

/- Walks: the time of a path. -/
namespace Go.Proofs.YtahpdkkpnkhnhaaGreatDoor
open Go Go.Proofs Go.RowKit Go.Shelf

def tAt (p : Pl) (x : Int) : Int := (p.ms.getD x.toNat ⟨⟨#[]⟩, 0⟩).time
def tSum (p : Pl) : List Int → Int
  | [] => 0
  | x :: r => tAt p x + tSum p r
theorem tSum_drop (p : Pl) (l : List Int) (k : Nat) (h : k < l.length) : tSum p (l.drop k) = tAt p l[k] + tSum p (l.drop (k + 1)) := by
  rw [List.drop_eq_getElem_cons h]; rfl
theorem tAt_nat {p : Pl} {x : Nat} (h : x < p.ms.length) : tAt p x = p.ms[x].time := by
  unfold tAt
  rw [show ((x : Int)).toNat = x by omega, List.getD_eq_getElem?_getD, List.getElem?_eq_getElem h]; rfl

set_option maxRecDepth 100000 in
set_option maxHeartbeats 1000000 in
theorem seconds105 (w : World) (v1 v2 u : Value) (p : Pl) (l : List Int) (hv : PlR w w.heap.size v1 v2 p) (hu : Sl encI 1 w w.heap.size u l) (hin : ∀ x ∈ l, inN p.ms.length x = true) (ht : ∀ m ∈ p.ms, 0 ≤ m.time ∧ m.time ≤ 100000) : Calls Tryz.prog 105 #[.agg #[v1, v2], u] w (Ret (.int .i64 (tSum p l)) w) := by
  obtain ⟨⟨a1, n1, rfl, hl1, hA1⟩, ⟨a2, n2, rfl, hl2, hA2⟩⟩ := hv
  obtain ⟨a, c, rfl, hlen, hA⟩ := hu
  have HA1 := Lib.hid hA1
  have HA := Lib.hid hA
  have HIN := Lib.hid hin
  have HT := Lib.hid ht
  clear hA1 hA2 hA hl2 hin ht
  obtain ⟨h11, h12⟩ := hl1
  obtain ⟨hl, hlc⟩ := hlen
  obtain ⟨R, hR⟩ : ∃ R, tSum p l = R := ⟨_, rfl⟩
  rw [hR]
  have HR := Lib.hid hR
  clear hR
  have HB := Lib.hid ((Below.refl w.heap.size w).alloc (Nat.le_refl _) (.cells #[.slice a1 p.ms.length n1, .slice a2 p.arcs.length n2] 25))
  have HX := Lib.hid (Box.new w #[.slice a1 p.ms.length n1, .slice a2 p.arcs.length n2] 25)
  obtain ⟨n, hn⟩ : ∃ n, p.ms.length = n := ⟨_, rfl⟩
  obtain ⟨m, hm⟩ : ∃ m, p.arcs.length = m := ⟨_, rfl⟩
  rw [hn] at HB HX h11 h12 HIN ⊢
  rw [hm] at HB HX ⊢
  have HN := Lib.hid hn
  clear hn hm
  go_enter Tryz.func105, Tryz.ntmps105
  go_wp2_with fail
  go_loopw [10, 5] (fun j o wr => ∃ k : Nat, k ≤ l.length ∧ j = .int .i64 k ∧ Below w.heap.size w wr ∧ Box wr w.heap.size 25 [.slice a1 n n1, .slice a2 m n2] ∧ ∃ s : Int, o = .int .i64 s ∧ 0 ≤ s ∧ s ≤ 100000 * k ∧ s + tSum p (l.drop k) = R) (fun j _ _ => l.length - (intOf j).toNat)
  case atStart => exact ⟨0, by omega, rfl, HB.out, HX.out, 0, rfl, by omega, by omega, by rw [List.drop_zero, Int.zero_add]; exact HR.out⟩
  case round =>
    clear HB HX
    obtain ⟨k, hk, rfl, hbe, hx, s, rfl, hs0, hs1, hrel⟩ := hrel
    have HL := Lib.hid hrel
    have HBE := Lib.hid hbe
    have HXE := Lib.hid hx
    clear hrel
    obtain ⟨x0, x1, xf, xz⟩ := hx.v2
    by_cases hlt : k < l.length
    · obtain ⟨b, off, rfl, hbb, hcells⟩ := HA.out (by omega)
      have c0 := ((hcells k hlt).below hbe hbb).c1
      rw [Nat.mul_one] at c0
      have hbz : b < wr.heap.size := by have := hbe.size; omega
      have hd := Lib.hid (tSum_drop p l k hlt)
      have hi := HIN.out l[k] (List.getElem_mem hlt)
      clear hcells HA
      generalize l[k] = y at *
      obtain ⟨x, rfl, hxn⟩ := inN_nat hi
      clear hi
      have hxl : x < p.ms.length := by rw [HN.out]; exact hxn
      obtain ⟨b1, off1, rfl, hbb1, hcells1⟩ := HA1.out (by omega)
      obtain ⟨c1, c2⟩ := ((hcells1 x hxl).below hbe hbb1).c2
      have hb1z : b1 < wr.heap.size := by have := hbe.size; omega
      obtain ⟨ht0, ht1⟩ := HT.out _ (List.getElem_mem hxl)
      have HTX := Lib.hid (tAt_nat hxl)
      clear hcells1 hbe hx
      generalize p.ms[x] = mc at *
      clear hxl
      obtain ⟨st, t⟩ := mc
      dsimp only at c1 c2 ht0 ht1
      have HV := Lib.hid (show s + t + tSum p (l.drop (k + 1)) = R by have h := HL.out; rw [hd.out, HTX.out] at h; dsimp only at h; omega)
      clear HL hd HTX
      go_wp2_with fail
      go_roundw
      case rel => exact ⟨k + 1, by omega, by go_num, HBE.out, HXE.out, s + t, by first | rfl | go_num, by omega, by omega, HV.out⟩
      case measure => simp [intOf]; omega
    · obtain rfl : l.length = k := by omega
      have HV := Lib.hid (show R = s by rw [← HL.out, List.drop_length]; unfold tSum; omega)
      go_wp2_with fail
      go_ret
      exact ⟨by rw [HV.out]; rfl, HBE.out⟩
end Go.Proofs.YtahpdkkpnkhnhaaGreatDoor
