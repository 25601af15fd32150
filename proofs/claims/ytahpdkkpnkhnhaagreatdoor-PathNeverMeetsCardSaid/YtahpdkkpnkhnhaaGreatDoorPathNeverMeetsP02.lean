/- Lemmas on the way to the law PathNeverMeets (part 2): Kb -/
import Derived.Test.YtahpdkkpnkhnhaaGreatDoorPathNeverMeetsP01
set_option linter.unusedVariables false
set_option linter.unusedSimpArgs false

/- Walks: whether a state is valid, in the reference. -/
namespace Go.Proofs.YtahpdkkpnkhnhaaGreatDoor
open Go Go.Proofs Go.RowKit Go.Shelf
set_option maxRecDepth 100000 in
set_option maxHeartbeats 1000000 in
theorem holds100 (w : World) (v1 v2 : Value) (p : Pl) (m : Nat) (hv : PlR w w.heap.size v1 v2 p) (hm : m < p.ms.length) : Calls Tryz.prog 100 #[.agg #[v1, v2], .int .i64 m] w (Ret (.bool (kpB (kdA p m))) w) := by
  obtain ⟨⟨a1, n1, rfl, hl1, hA1⟩, ⟨a2, n2, rfl, hl2, hA2⟩⟩ := hv
  obtain ⟨b1, off1, rfl, hbb1, hcells1⟩ := hA1 (by omega)
  rw [kdA_nat hm]
  have HCM := Lib.hid (hcells1 m hm)
  clear hA1 hA2 hcells1 hl2
  obtain ⟨h11, h12⟩ := hl1
  have HB := Lib.hid ((Below.refl w.heap.size w).alloc (Nat.le_refl _) (.cells #[.slice (some ⟨b1, off1, none⟩) p.ms.length n1, .slice a2 p.arcs.length n2] 25))
  have HX := Lib.hid (Box.new w #[.slice (some ⟨b1, off1, none⟩) p.ms.length n1, .slice a2 p.arcs.length n2] 25)
  obtain ⟨n, hn⟩ : ∃ n, p.ms.length = n := ⟨_, rfl⟩
  obtain ⟨na, hna⟩ : ∃ m, p.arcs.length = m := ⟨_, rfl⟩
  rw [hn] at HB HX hm h11 h12 ⊢
  rw [hna] at HB HX ⊢
  generalize p.ms[m] = mc at *
  clear hn hna
  obtain ⟨sm, tm⟩ := mc
  dsimp only
  rw [kpB_eq]
  obtain ⟨k0, h0⟩ : ∃ q, isW sm 0 = q := ⟨_, rfl⟩
  obtain ⟨k2, h2⟩ : ∃ q, isW sm 2 = q := ⟨_, rfl⟩
  rw [h0, h2]
  replace h0 : (sm.toList == [112, 105, 116]) = k0 := h0
  replace h2 : (sm.toList == [115, 112, 111, 117, 116]) = k2 := h2
  have h0' := bne_of h0
  have h2' := bne_of h2
  go_enter Tryz.func100, Tryz.ntmps100
  obtain ⟨x0, x1, xf, xz⟩ := HX.out.v2
  obtain ⟨m0, m1⟩ := (HCM.out.below HB.out hbb1).c2
  have b1z := Nat.lt_of_lt_of_le hbb1 HB.out.size
  cases k0 <;> cases k2 <;> (go_wp2_with fail; go_ret; exact ⟨rfl, HB.out⟩)
theorem ne_empty_of {s : ByteArray} (h : s.toList.isEmpty = false) : s.toList ≠ [] := by intro e; rw [e] at h; cases h
set_option maxRecDepth 100000 in
set_option maxHeartbeats 1000000 in
theorem isValid98 (w : World) (v1 v2 u : Value) (p : Pl) (st : List Sx) (hv : PlR w w.heap.size v1 v2 p) (hu : Sl Sx.enc 3 w w.heap.size u st) (hln : st.length = p.ms.length) (hfd : ∀ s ∈ st, s.feeds < 0 ∨ inN p.ms.length s.feeds = true) : Calls Tryz.prog 98 #[.agg #[v1, v2], u] w (Ret (.bool (validB p st)) w) := by
  have HPL := Lib.hid (fun (w1 : World) (hb : Below w.heap.size w w1) (x : Nat) hx => holds100 w1 _ _ p x (hv.later hb) hx)
  obtain ⟨⟨a1, n1, rfl, hl1, hA1⟩, ⟨a2, n2, rfl, hl2, hA2⟩⟩ := hv
  obtain ⟨a, c, rfl, hlen, hA⟩ := hu
  have HA1 := Lib.hid hA1
  have HA := Lib.hid hA
  have HFD := Lib.hid hfd
  clear hA1 hA2 hA hl2 hfd
  obtain ⟨h11, h12⟩ := hl1
  obtain ⟨hl, hlc⟩ := hlen
  obtain ⟨R, hR⟩ : ∃ R, validB p st = R := ⟨_, rfl⟩
  rw [hR]
  have HR := Lib.hid hR
  have HRT := Lib.hid (fun (h : ∀ k, k < st.length → vdK p st k = true) => show R = true by rw [← hR]; exact (validB_iff p st).2 h)
  clear hR
  obtain ⟨n, hn⟩ : ∃ n, p.ms.length = n := ⟨_, rfl⟩
  obtain ⟨m, hm⟩ : ∃ m, p.arcs.length = m := ⟨_, rfl⟩
  rw [hln] at hl hlc ⊢
  rw [hn] at h11 h12 HFD hl hlc hln HPL ⊢
  rw [hm] at HPL ⊢
  have HN := Lib.hid hn
  have HLN := Lib.hid hln
  clear hn hm hln
  go_enter Tryz.func98, Tryz.ntmps98
  go_wp2_with fail
  go_loopw [5] (fun i wr => ∃ k : Nat, k ≤ n ∧ i = .int .i64 k ∧ Below w.heap.size w wr ∧ Box wr w.heap.size 25 [.slice a1 n n1, .slice a2 m n2] ∧ ∀ j, j < k → vdK p st j = true) (fun i _ => n - (intOf i).toNat)
  case atStart => exact ⟨0, by omega, rfl, (Below.refl w.heap.size w).alloc (Nat.le_refl _) _, Box.new w _ 25, fun j hj => absurd hj (by omega)⟩
  case round =>
    obtain ⟨k, hk, rfl, hbe, hx, hok⟩ := hrel
    have HOK := Lib.hid hok
    have HBE := Lib.hid hbe
    have HXE := Lib.hid hx
    clear hok hbe hx
    by_cases hlt : k < n
    rotate_left
    · obtain rfl : n = k := by omega
      have HV := Lib.hid (HRT.out (fun k hk => HOK.out k (by rw [HLN.out] at hk; exact hk)))
      go_wp2_with fail
      go_ret
      exact ⟨by rw [HV.out]; rfl, HBE.out⟩
    have hks : k < st.length := by rw [HLN.out]; exact hlt
    have hkp : k < p.ms.length := by rw [HN.out]; exact hlt
    have HPK := Lib.hid (fun w1 hb => HPL.out w1 hb k hlt)
    rw [kdA_nat hkp] at HPK
    obtain ⟨b, off, rfl, hbb, hcells⟩ := HA.out (by omega)
    obtain ⟨b1, off1, rfl, hbb1, hcells1⟩ := HA1.out (by omega)
    have HCK := Lib.hid (hcells k hks)
    have HC := Lib.hid hcells
    have HC1 := Lib.hid hcells1
    have HKK := Lib.hid (kdA_nat hkp)
    have HFK := Lib.hid (HFD.out st[k] (List.getElem_mem hks))
    have HGK := Lib.hid (stGet hks)
    have HNO := Lib.hid (fun (h : vdK p st k = false) => validB_no HR.out hks h)
    clear hcells hcells1
    generalize st[k] = sk at *
    generalize p.ms[k] = mk at *
    clear hks hkp
    obtain ⟨runs, feeds, grain⟩ := sk
    obtain ⟨sm, tm⟩ := mk
    dsimp only at HFK HKK HPK
    obtain ⟨c0, c1, c2⟩ := (HCK.out.below HBE.out hbb).c3
    dsimp only at c0 c1 c2
    have hbz : b < wr.heap.size := Nat.lt_of_lt_of_le hbb HBE.out.size
    have HB := Lib.hid (HBE.out.alloc (by have := HBE.out.size; omega) (.cells #[.bool runs, .int .i64 feeds, .string grain] 100))
    have HX := Lib.hid (HXE.out.alloc (.cells #[.bool runs, .int .i64 feeds, .string grain] 100))
    have HS := Lib.hid (Box.new wr #[.bool runs, .int .i64 feeds, .string grain] 100)
    have HVD := Lib.hid (show vdK p st k = if feeds < 0 then !runs else !(fedB st k feeds || (runs && cvB (kdA p feeds) && !(st.getD feeds.toNat s0).runs)) && !((kpB sm && grain.toList.isEmpty) || (kpB (kdA p feeds) && (st.getD feeds.toNat s0).grain.toList.isEmpty) || (kpB sm && kpB (kdA p feeds) && !(grain.toList == (st.getD feeds.toNat s0).grain.toList))) by unfold vdK; rw [HGK.out, HKK.out])
    by_cases hf0 : feeds < 0
    · have d0 : decide (feeds < 0) = true := decide_eq_true hf0
      rw [if_pos hf0] at HVD
      clear hf0
      have y0 := HS.out.cell 0
      have y1 := HS.out.cell 1
      have yz := HS.out.lt
      simp only [List.getElem?_cons_zero, List.getElem?_cons_succ] at y0 y1
      cases runs with
      | true =>
        have HV := Lib.hid (HNO.out HVD.out)
        go_wp2_with fail
        go_ret
        exact ⟨by rw [HV.out]; rfl, HB.out⟩
      | false =>
        go_wp2_with fail
        go_roundw
        case rel => exact ⟨k + 1, by omega, by go_num, HB.out, HX.out, fun i hi => (Nat.lt_succ_iff_lt_or_eq.1 hi).elim (HOK.out i) (fun h => by rw [h]; exact HVD.out)⟩
        case measure => simp [intOf]; omega
    have d0 : decide (feeds < 0) = false := decide_eq_false hf0
    rw [if_neg hf0] at HVD
    obtain ⟨kf, rfl, hkf⟩ := inN_nat (HFK.out.resolve_left hf0)
    rw [Int.toNat_natCast] at HVD
    clear hf0 HFK
    have hfs : kf < st.length := by rw [HLN.out]; exact hkf
    have hfp : kf < p.ms.length := by rw [HN.out]; exact hkf
    have HCT := Lib.hid (HC.out kf hfs)
    have HCN := Lib.hid (HC1.out kf hfp)
    have HGF := Lib.hid (stGet hfs)
    have HKF := Lib.hid (kdA_nat hfp)
    have HPF := Lib.hid (fun w1 hb => HPL.out w1 hb kf hkf)
    rw [HGF.out, HKF.out] at HVD
    rw [HKF.out] at HPF
    clear HGF HKF
    generalize st[kf] = sf at *
    generalize p.ms[kf] = mf at *
    clear hfs hfp
    obtain ⟨rk, fk, gk⟩ := sf
    obtain ⟨sn, tn⟩ := mf
    dsimp only at HVD HPF
    obtain ⟨qf, hqf⟩ : ∃ q, fedB st k kf = q := ⟨_, rfl⟩
    obtain ⟨qc, hqc⟩ : ∃ q, cvB sn = q := ⟨_, rfl⟩
    obtain ⟨km, hkm⟩ : ∃ q, kpB sm = q := ⟨_, rfl⟩
    obtain ⟨kk, hkk⟩ : ∃ q, kpB sn = q := ⟨_, rfl⟩
    obtain ⟨ge, hge⟩ : ∃ q, grain.toList.isEmpty = q := ⟨_, rfl⟩
    obtain ⟨gke, hgke⟩ : ∃ q, gk.toList.isEmpty = q := ⟨_, rfl⟩
    obtain ⟨gq, hgq⟩ : ∃ q, (grain.toList == gk.toList) = q := ⟨_, rfl⟩
    rw [hqf, hqc, hkm, hkk, hge, hgke, hgq] at HVD
    rw [hkm] at HPK
    rw [hkk] at HPF
    have HK42 := Lib.hid (fun (w1 : World) => isConveyor42 sn w1)
    rw [hqc] at HK42
    have HGE := Lib.hid hge
    have HGKE := Lib.hid hgke
    have HGQ := Lib.hid hgq
    have HQF := Lib.hid hqf
    clear hqf hqc hkm hkk hge hgke hgq HGK HKK HCK HPL
    have hba : Below wr.heap.size wr (wr.alloc (.cells #[.bool runs, .int .i64 kf, .string grain] 100)) := (Below.refl _ _).alloc (Nat.le_refl _) _
    have HB2 := Lib.hid (HB.out.alloc (by have := HBE.out.size; simp; omega) (.cells #[.bool rk, .int .i64 fk, .string gk] 100))
    have HX2 := Lib.hid (HX.out.alloc (.cells #[.bool rk, .int .i64 fk, .string gk] 100))
    have HS2 := Lib.hid (HS.out.alloc (.cells #[.bool rk, .int .i64 fk, .string gk] 100))
    have HN2 := Lib.hid (Box.newAt (wr.alloc (.cells #[.bool runs, .int .i64 kf, .string grain] 100)) #[.bool rk, .int .i64 fk, .string gk] 100 (by simp : _ = wr.heap.size + 1))
    have y0 := HS.out.cell 0
    have y1 := HS.out.cell 1
    have y2 := HS.out.cell 2
    have yz := HS.out.lt
    simp only [List.getElem?_cons_zero, List.getElem?_cons_succ] at y0 y1 y2
    obtain ⟨t0, t1, t2⟩ := (HCT.out.below HB.out hbb).c3
    dsimp only at t0 t1 t2
    have hbz2 := Nat.lt_of_lt_of_le hbb HB.out.size
    clear hba
    go_wp2_with fail
    clear y0 y1 y2 yz t0 t1 t2 hbz2 hbz c0 c1 c2 HS HB HX HBE HXE d0
    obtain ⟨W8, hW8⟩ : ∃ W, (wr.alloc (.cells #[.bool runs, .int .i64 kf, .string grain] 100)).alloc (.cells #[.bool rk, .int .i64 fk, .string gk] 100) = W := ⟨_, rfl⟩
    rw [hW8] at HB2 HX2 HS2 HN2 ⊢
    clear hW8
    obtain ⟨ws, hws⟩ : ∃ x, wr.heap.size = x := ⟨_, rfl⟩
    rw [hws] at HS2 HN2 ⊢
    clear hws
    go_loopw [8] (fun i w9 => ∃ j : Nat, j ≤ k ∧ i = .int .i64 j ∧ Below w.heap.size w w9 ∧ Box w9 w.heap.size 25 [.slice (some ⟨b1, off1, none⟩) n n1, .slice a2 m n2] ∧ Box w9 ws 100 [.bool runs, .int .i64 kf, .string grain] ∧ Box w9 (ws + 1) 100 [.bool rk, .int .i64 fk, .string gk] ∧ ((st.take k).drop j).any (fun s => s.feeds == (kf : Int)) = qf) (fun i _ => k - (intOf i).toNat)
    case atStart => exact ⟨0, by omega, rfl, HB2.out, HX2.out, HS2.out, HN2.out, HQF.out⟩
    case round =>
      clear HB2 HX2 HS2 HN2
      obtain ⟨j, hj, rfl, hbe, hx, hs, hn, hrel⟩ := hrel
      have HL := Lib.hid hrel
      clear hrel
      by_cases hjk : j < k
      · have hjs : j < st.length := by rw [HLN.out]; omega
        have hjt : j < (st.take k).length := by rw [List.length_take]; omega
        obtain ⟨s0, s1, s2⟩ := ((HC.out j hjs).below hbe hbb).c3
        have hjz := Nat.lt_of_lt_of_le hbb hbe.size
        have y0 := hs.cell 0
        have y1 := hs.cell 1
        have yz := hs.lt
        simp only [List.getElem?_cons_zero, List.getElem?_cons_succ] at y0 y1
        have HD := Lib.hid (show ((st[j].feeds == (kf : Int)) || ((st.take k).drop (j + 1)).any (fun s => s.feeds == (kf : Int))) = qf by
          have h := HL.out
          rw [List.drop_eq_getElem_cons hjt, List.any_cons, List.getElem_take] at h
          exact h)
        have HBE := Lib.hid hbe
        have HXE := Lib.hid hx
        have HSE := Lib.hid hs
        have HNE := Lib.hid hn
        clear hbe hx hs hn HL
        generalize st[j] = sj at *
        obtain ⟨rj, fj, gj⟩ := sj
        dsimp only at s0 s1 s2 HD
        cases he : fj == (kf : Int) with
        | true =>
          have HV := Lib.hid (HNO.out (by
            have h := HD.out
            rw [he, Bool.true_or] at h
            rw [HVD.out, ← h, Bool.true_or]
            rfl))
          go_wp2_with fail
          refine wp_region_later (by kernel_rfl) (by kernel_rfl) ?_
          repeat go_big_quiet_step (fail)
          refine wpQuiet_nil ?_
          rintro w11 ⟨⟨_, hb⟩, rfl⟩
          have HBF := Lib.hid (HBE.out.trans (hb.mono HBE.out.size))
          clear hb
          go_wp2_with fail
          go_ret
          exact ⟨by rw [HV.out]; rfl, HBF.out⟩
        | false =>
          have HV := Lib.hid (show ((st.take k).drop (j + 1)).any (fun s => s.feeds == (kf : Int)) = qf by have h := HD.out; rw [he, Bool.false_or] at h; exact h)
          go_wp2_with fail
          refine wp_region_later (by kernel_rfl) (by kernel_rfl) ?_
          repeat go_big_quiet_step (fail)
          refine wpQuiet_nil ?_
          rintro w11 ⟨⟨_, hb⟩, rfl⟩
          have HBF := Lib.hid (HBE.out.trans (hb.mono HBE.out.size))
          have HXF := Lib.hid (HXE.out.later hb)
          have HSF := Lib.hid (HSE.out.later hb)
          have HNF := Lib.hid (HNE.out.later hb)
          clear hb
          go_wp2_with fail
          go_roundw
          case rel => exact ⟨j + 1, by omega, by go_num, HBF.out, HXF.out, HSF.out, HNF.out, HV.out⟩
          case measure => simp [intOf]; omega
      · obtain rfl : k = j := by omega
        have HV := Lib.hid (show qf = false by rw [← HL.out, List.drop_of_length_le (by rw [List.length_take]; omega)]; rfl)
        rw [HV.out] at HVD
        have HB := Lib.hid hbe
        have HX := Lib.hid hx
        have HS := Lib.hid hs
        have HT := Lib.hid hn
        clear hbe hx hs hn HL HV HQF
        have X0 := HX.out.cell 0
        have X1 := HX.out.cell 1
        have Xf := HX.out.frozen
        have Xz := HX.out.lt
        have S0 := HS.out.cell 0
        have S1 := HS.out.cell 1
        have S2 := HS.out.cell 2
        have Sz := HS.out.lt
        have T0 := HT.out.cell 0
        have T1 := HT.out.cell 1
        have T2 := HT.out.cell 2
        have Tz := HT.out.lt
        simp only [List.getElem?_cons_zero, List.getElem?_cons_succ] at X0 X1 S0 S1 S2 T0 T1 T2
        obtain ⟨n0, n1⟩ := (HCN.out.below HB.out hbb1).c2
        have b1z := Nat.lt_of_lt_of_le hbb1 HB.out.size
        cases runs with
        | true =>
          go_wp2_with fail
          refine (HK42.out _).mono ?_
          rintro e21 w21 ⟨rfl, rfl⟩
          cases qc with
          | true =>
            cases rk with
            | true =>
              go_wp2_with fail
              refine (HPK.out _ HB.out).mono ?_
              rintro e22 w22 ⟨rfl, hb⟩
              have HB22 := Lib.hid (HB.out.trans (hb.mono HB.out.size))
              have HX22 := Lib.hid (HX.out.later hb)
              have HS22 := Lib.hid (HS.out.later hb)
              have HT22 := Lib.hid (HT.out.later hb)
              clear hb
              clear X0 X1 Xf Xz S0 S1 S2 Sz T0 T1 T2 Tz n0 n1 b1z
              have X0 := HX22.out.cell 0
              have X1 := HX22.out.cell 1
              have Xf := HX22.out.frozen
              have Xz := HX22.out.lt
              have S0 := HS22.out.cell 0
              have S1 := HS22.out.cell 1
              have S2 := HS22.out.cell 2
              have Sz := HS22.out.lt
              have T0 := HT22.out.cell 0
              have T1 := HT22.out.cell 1
              have T2 := HT22.out.cell 2
              have Tz := HT22.out.lt
              simp only [List.getElem?_cons_zero, List.getElem?_cons_succ] at X0 X1 S0 S1 S2 T0 T1 T2
              obtain ⟨n0, n1⟩ := (HCN.out.below HB22.out hbb1).c2
              have b1z := Nat.lt_of_lt_of_le hbb1 HB22.out.size
              cases km with
              | true =>
                have ge2 := HGE.out
                cases ge with
                | true =>
                  have g0 := empty_of ge2
                  have HV := Lib.hid (HNO.out (HVD.out.trans (by simp)))
                  go_wp2_with fail
                  go_ret
                  exact ⟨by rw [HV.out]; rfl, HB22.out⟩
                | false =>
                  have g0 := ne_empty_of ge2
                  go_wp2_with fail
                  refine (HPF.out _ HB22.out).mono ?_
                  rintro e23 w23 ⟨rfl, hb⟩
                  have HB23 := Lib.hid (HB22.out.trans (hb.mono HB22.out.size))
                  have HX23 := Lib.hid (HX22.out.later hb)
                  have HS23 := Lib.hid (HS22.out.later hb)
                  have HT23 := Lib.hid (HT22.out.later hb)
                  clear hb
                  clear X0 X1 Xf Xz S0 S1 S2 Sz T0 T1 T2 Tz n0 n1 b1z
                  have X0 := HX23.out.cell 0
                  have X1 := HX23.out.cell 1
                  have Xf := HX23.out.frozen
                  have Xz := HX23.out.lt
                  have S0 := HS23.out.cell 0
                  have S1 := HS23.out.cell 1
                  have S2 := HS23.out.cell 2
                  have Sz := HS23.out.lt
                  have T0 := HT23.out.cell 0
                  have T1 := HT23.out.cell 1
                  have T2 := HT23.out.cell 2
                  have Tz := HT23.out.lt
                  simp only [List.getElem?_cons_zero, List.getElem?_cons_succ] at X0 X1 S0 S1 S2 T0 T1 T2
                  obtain ⟨n0, n1⟩ := (HCN.out.below HB23.out hbb1).c2
                  have b1z := Nat.lt_of_lt_of_le hbb1 HB23.out.size
                  cases kk with
                  | true =>
                    have gke2 := HGKE.out
                    cases gke with
                    | true =>
                      have gk0 := empty_of gke2
                      have HV := Lib.hid (HNO.out (HVD.out.trans (by simp)))
                      go_wp2_with fail
                      go_ret
                      exact ⟨by rw [HV.out]; rfl, HB23.out⟩
                    | false =>
                      have gk0 := ne_empty_of gke2
                      go_wp2_with fail
                      refine (HPK.out _ HB23.out).mono ?_
                      rintro e24 w24 ⟨rfl, hb⟩
                      have HB24 := Lib.hid (HB23.out.trans (hb.mono HB23.out.size))
                      have HX24 := Lib.hid (HX23.out.later hb)
                      have HS24 := Lib.hid (HS23.out.later hb)
                      have HT24 := Lib.hid (HT23.out.later hb)
                      clear hb
                      clear X0 X1 Xf Xz S0 S1 S2 Sz T0 T1 T2 Tz n0 n1 b1z
                      have X0 := HX24.out.cell 0
                      have X1 := HX24.out.cell 1
                      have Xf := HX24.out.frozen
                      have Xz := HX24.out.lt
                      have S0 := HS24.out.cell 0
                      have S1 := HS24.out.cell 1
                      have S2 := HS24.out.cell 2
                      have Sz := HS24.out.lt
                      have T0 := HT24.out.cell 0
                      have T1 := HT24.out.cell 1
                      have T2 := HT24.out.cell 2
                      have Tz := HT24.out.lt
                      simp only [List.getElem?_cons_zero, List.getElem?_cons_succ] at X0 X1 S0 S1 S2 T0 T1 T2
                      obtain ⟨n0, n1⟩ := (HCN.out.below HB24.out hbb1).c2
                      have b1z := Nat.lt_of_lt_of_le hbb1 HB24.out.size
                      go_wp2_with fail
                      refine (HPF.out _ HB24.out).mono ?_
                      rintro e25 w25 ⟨rfl, hb⟩
                      have HB25 := Lib.hid (HB24.out.trans (hb.mono HB24.out.size))
                      have HX25 := Lib.hid (HX24.out.later hb)
                      have HS25 := Lib.hid (HS24.out.later hb)
                      have HT25 := Lib.hid (HT24.out.later hb)
                      clear hb
                      clear X0 X1 Xf Xz S0 S1 S2 Sz T0 T1 T2 Tz n0 n1 b1z
                      have X0 := HX25.out.cell 0
                      have X1 := HX25.out.cell 1
                      have Xf := HX25.out.frozen
                      have Xz := HX25.out.lt
                      have S0 := HS25.out.cell 0
                      have S1 := HS25.out.cell 1
                      have S2 := HS25.out.cell 2
                      have Sz := HS25.out.lt
                      have T0 := HT25.out.cell 0
                      have T1 := HT25.out.cell 1
                      have T2 := HT25.out.cell 2
                      have Tz := HT25.out.lt
                      simp only [List.getElem?_cons_zero, List.getElem?_cons_succ] at X0 X1 S0 S1 S2 T0 T1 T2
                      obtain ⟨n0, n1⟩ := (HCN.out.below HB25.out hbb1).c2
                      have b1z := Nat.lt_of_lt_of_le hbb1 HB25.out.size
                      have gqf := HGQ.out
                      have gqn := bne_of gqf
                      cases gq with
                      | true =>
                        have HV := Lib.hid (HVD.out.trans (show _ = true by simp))
                        go_wp2_with fail
                        go_roundw
                        case rel => exact ⟨k + 1, by omega, by go_num, HB25.out, HX25.out, fun i hi => (Nat.lt_succ_iff_lt_or_eq.1 hi).elim (HOK.out i) (fun h => by rw [h]; exact HV.out)⟩
                        case measure => simp [intOf]; omega
                      | false =>
                        have HV := Lib.hid (HNO.out (HVD.out.trans (by simp)))
                        go_wp2_with fail
                        go_ret
                        exact ⟨by rw [HV.out]; rfl, HB25.out⟩
                  | false =>
                    go_wp2_with fail
                    refine (HPK.out _ HB23.out).mono ?_
                    rintro e26 w26 ⟨rfl, hb⟩
                    have HB26 := Lib.hid (HB23.out.trans (hb.mono HB23.out.size))
                    have HX26 := Lib.hid (HX23.out.later hb)
                    have HS26 := Lib.hid (HS23.out.later hb)
                    have HT26 := Lib.hid (HT23.out.later hb)
                    clear hb
                    clear X0 X1 Xf Xz S0 S1 S2 Sz T0 T1 T2 Tz n0 n1 b1z
                    have X0 := HX26.out.cell 0
                    have X1 := HX26.out.cell 1
                    have Xf := HX26.out.frozen
                    have Xz := HX26.out.lt
                    have S0 := HS26.out.cell 0
                    have S1 := HS26.out.cell 1
                    have S2 := HS26.out.cell 2
                    have Sz := HS26.out.lt
                    have T0 := HT26.out.cell 0
                    have T1 := HT26.out.cell 1
                    have T2 := HT26.out.cell 2
                    have Tz := HT26.out.lt
                    simp only [List.getElem?_cons_zero, List.getElem?_cons_succ] at X0 X1 S0 S1 S2 T0 T1 T2
                    obtain ⟨n0, n1⟩ := (HCN.out.below HB26.out hbb1).c2
                    have b1z := Nat.lt_of_lt_of_le hbb1 HB26.out.size
                    go_wp2_with fail
                    refine (HPF.out _ HB26.out).mono ?_
                    rintro e27 w27 ⟨rfl, hb⟩
                    have HB27 := Lib.hid (HB26.out.trans (hb.mono HB26.out.size))
                    have HX27 := Lib.hid (HX26.out.later hb)
                    have HS27 := Lib.hid (HS26.out.later hb)
                    have HT27 := Lib.hid (HT26.out.later hb)
                    clear hb
                    clear X0 X1 Xf Xz S0 S1 S2 Sz T0 T1 T2 Tz n0 n1 b1z
                    have X0 := HX27.out.cell 0
                    have X1 := HX27.out.cell 1
                    have Xf := HX27.out.frozen
                    have Xz := HX27.out.lt
                    have S0 := HS27.out.cell 0
                    have S1 := HS27.out.cell 1
                    have S2 := HS27.out.cell 2
                    have Sz := HS27.out.lt
                    have T0 := HT27.out.cell 0
                    have T1 := HT27.out.cell 1
                    have T2 := HT27.out.cell 2
                    have Tz := HT27.out.lt
                    simp only [List.getElem?_cons_zero, List.getElem?_cons_succ] at X0 X1 S0 S1 S2 T0 T1 T2
                    obtain ⟨n0, n1⟩ := (HCN.out.below HB27.out hbb1).c2
                    have b1z := Nat.lt_of_lt_of_le hbb1 HB27.out.size
                    have HV := Lib.hid (HVD.out.trans (show _ = true by simp))
                    go_wp2_with fail
                    go_roundw
                    case rel => exact ⟨k + 1, by omega, by go_num, HB27.out, HX27.out, fun i hi => (Nat.lt_succ_iff_lt_or_eq.1 hi).elim (HOK.out i) (fun h => by rw [h]; exact HV.out)⟩
                    case measure => simp [intOf]; omega
              | false =>
                go_wp2_with fail
                refine (HPF.out _ HB22.out).mono ?_
                rintro e28 w28 ⟨rfl, hb⟩
                have HB28 := Lib.hid (HB22.out.trans (hb.mono HB22.out.size))
                have HX28 := Lib.hid (HX22.out.later hb)
                have HS28 := Lib.hid (HS22.out.later hb)
                have HT28 := Lib.hid (HT22.out.later hb)
                clear hb
                clear X0 X1 Xf Xz S0 S1 S2 Sz T0 T1 T2 Tz n0 n1 b1z
                have X0 := HX28.out.cell 0
                have X1 := HX28.out.cell 1
                have Xf := HX28.out.frozen
                have Xz := HX28.out.lt
                have S0 := HS28.out.cell 0
                have S1 := HS28.out.cell 1
                have S2 := HS28.out.cell 2
                have Sz := HS28.out.lt
                have T0 := HT28.out.cell 0
                have T1 := HT28.out.cell 1
                have T2 := HT28.out.cell 2
                have Tz := HT28.out.lt
                simp only [List.getElem?_cons_zero, List.getElem?_cons_succ] at X0 X1 S0 S1 S2 T0 T1 T2
                obtain ⟨n0, n1⟩ := (HCN.out.below HB28.out hbb1).c2
                have b1z := Nat.lt_of_lt_of_le hbb1 HB28.out.size
                cases kk with
                | true =>
                  have gke2 := HGKE.out
                  cases gke with
                  | true =>
                    have gk0 := empty_of gke2
                    have HV := Lib.hid (HNO.out (HVD.out.trans (by simp)))
                    go_wp2_with fail
                    go_ret
                    exact ⟨by rw [HV.out]; rfl, HB28.out⟩
                  | false =>
                    have gk0 := ne_empty_of gke2
                    go_wp2_with fail
                    refine (HPK.out _ HB28.out).mono ?_
                    rintro e29 w29 ⟨rfl, hb⟩
                    have HB29 := Lib.hid (HB28.out.trans (hb.mono HB28.out.size))
                    have HX29 := Lib.hid (HX28.out.later hb)
                    have HS29 := Lib.hid (HS28.out.later hb)
                    have HT29 := Lib.hid (HT28.out.later hb)
                    clear hb
                    clear X0 X1 Xf Xz S0 S1 S2 Sz T0 T1 T2 Tz n0 n1 b1z
                    have X0 := HX29.out.cell 0
                    have X1 := HX29.out.cell 1
                    have Xf := HX29.out.frozen
                    have Xz := HX29.out.lt
                    have S0 := HS29.out.cell 0
                    have S1 := HS29.out.cell 1
                    have S2 := HS29.out.cell 2
                    have Sz := HS29.out.lt
                    have T0 := HT29.out.cell 0
                    have T1 := HT29.out.cell 1
                    have T2 := HT29.out.cell 2
                    have Tz := HT29.out.lt
                    simp only [List.getElem?_cons_zero, List.getElem?_cons_succ] at X0 X1 S0 S1 S2 T0 T1 T2
                    obtain ⟨n0, n1⟩ := (HCN.out.below HB29.out hbb1).c2
                    have b1z := Nat.lt_of_lt_of_le hbb1 HB29.out.size
                    have HV := Lib.hid (HVD.out.trans (show _ = true by simp))
                    go_wp2_with fail
                    go_roundw
                    case rel => exact ⟨k + 1, by omega, by go_num, HB29.out, HX29.out, fun i hi => (Nat.lt_succ_iff_lt_or_eq.1 hi).elim (HOK.out i) (fun h => by rw [h]; exact HV.out)⟩
                    case measure => simp [intOf]; omega
                | false =>
                  go_wp2_with fail
                  refine (HPK.out _ HB28.out).mono ?_
                  rintro e30 w30 ⟨rfl, hb⟩
                  have HB30 := Lib.hid (HB28.out.trans (hb.mono HB28.out.size))
                  have HX30 := Lib.hid (HX28.out.later hb)
                  have HS30 := Lib.hid (HS28.out.later hb)
                  have HT30 := Lib.hid (HT28.out.later hb)
                  clear hb
                  clear X0 X1 Xf Xz S0 S1 S2 Sz T0 T1 T2 Tz n0 n1 b1z
                  have X0 := HX30.out.cell 0
                  have X1 := HX30.out.cell 1
                  have Xf := HX30.out.frozen
                  have Xz := HX30.out.lt
                  have S0 := HS30.out.cell 0
                  have S1 := HS30.out.cell 1
                  have S2 := HS30.out.cell 2
                  have Sz := HS30.out.lt
                  have T0 := HT30.out.cell 0
                  have T1 := HT30.out.cell 1
                  have T2 := HT30.out.cell 2
                  have Tz := HT30.out.lt
                  simp only [List.getElem?_cons_zero, List.getElem?_cons_succ] at X0 X1 S0 S1 S2 T0 T1 T2
                  obtain ⟨n0, n1⟩ := (HCN.out.below HB30.out hbb1).c2
                  have b1z := Nat.lt_of_lt_of_le hbb1 HB30.out.size
                  have HV := Lib.hid (HVD.out.trans (show _ = true by simp))
                  go_wp2_with fail
                  go_roundw
                  case rel => exact ⟨k + 1, by omega, by go_num, HB30.out, HX30.out, fun i hi => (Nat.lt_succ_iff_lt_or_eq.1 hi).elim (HOK.out i) (fun h => by rw [h]; exact HV.out)⟩
                  case measure => simp [intOf]; omega
            | false =>
              have HV := Lib.hid (HNO.out (HVD.out.trans (by simp)))
              go_wp2_with fail
              go_ret
              exact ⟨by rw [HV.out]; rfl, HB.out⟩
          | false =>
            go_wp2_with fail
            refine (HPK.out _ HB.out).mono ?_
            rintro e31 w31 ⟨rfl, hb⟩
            have HB31 := Lib.hid (HB.out.trans (hb.mono HB.out.size))
            have HX31 := Lib.hid (HX.out.later hb)
            have HS31 := Lib.hid (HS.out.later hb)
            have HT31 := Lib.hid (HT.out.later hb)
            clear hb
            clear X0 X1 Xf Xz S0 S1 S2 Sz T0 T1 T2 Tz n0 n1 b1z
            have X0 := HX31.out.cell 0
            have X1 := HX31.out.cell 1
            have Xf := HX31.out.frozen
            have Xz := HX31.out.lt
            have S0 := HS31.out.cell 0
            have S1 := HS31.out.cell 1
            have S2 := HS31.out.cell 2
            have Sz := HS31.out.lt
            have T0 := HT31.out.cell 0
            have T1 := HT31.out.cell 1
            have T2 := HT31.out.cell 2
            have Tz := HT31.out.lt
            simp only [List.getElem?_cons_zero, List.getElem?_cons_succ] at X0 X1 S0 S1 S2 T0 T1 T2
            obtain ⟨n0, n1⟩ := (HCN.out.below HB31.out hbb1).c2
            have b1z := Nat.lt_of_lt_of_le hbb1 HB31.out.size
            cases km with
            | true =>
              have ge2 := HGE.out
              cases ge with
              | true =>
                have g0 := empty_of ge2
                have HV := Lib.hid (HNO.out (HVD.out.trans (by simp)))
                go_wp2_with fail
                go_ret
                exact ⟨by rw [HV.out]; rfl, HB31.out⟩
              | false =>
                have g0 := ne_empty_of ge2
                go_wp2_with fail
                refine (HPF.out _ HB31.out).mono ?_
                rintro e32 w32 ⟨rfl, hb⟩
                have HB32 := Lib.hid (HB31.out.trans (hb.mono HB31.out.size))
                have HX32 := Lib.hid (HX31.out.later hb)
                have HS32 := Lib.hid (HS31.out.later hb)
                have HT32 := Lib.hid (HT31.out.later hb)
                clear hb
                clear X0 X1 Xf Xz S0 S1 S2 Sz T0 T1 T2 Tz n0 n1 b1z
                have X0 := HX32.out.cell 0
                have X1 := HX32.out.cell 1
                have Xf := HX32.out.frozen
                have Xz := HX32.out.lt
                have S0 := HS32.out.cell 0
                have S1 := HS32.out.cell 1
                have S2 := HS32.out.cell 2
                have Sz := HS32.out.lt
                have T0 := HT32.out.cell 0
                have T1 := HT32.out.cell 1
                have T2 := HT32.out.cell 2
                have Tz := HT32.out.lt
                simp only [List.getElem?_cons_zero, List.getElem?_cons_succ] at X0 X1 S0 S1 S2 T0 T1 T2
                obtain ⟨n0, n1⟩ := (HCN.out.below HB32.out hbb1).c2
                have b1z := Nat.lt_of_lt_of_le hbb1 HB32.out.size
                cases kk with
                | true =>
                  have gke2 := HGKE.out
                  cases gke with
                  | true =>
                    have gk0 := empty_of gke2
                    have HV := Lib.hid (HNO.out (HVD.out.trans (by simp)))
                    go_wp2_with fail
                    go_ret
                    exact ⟨by rw [HV.out]; rfl, HB32.out⟩
                  | false =>
                    have gk0 := ne_empty_of gke2
                    go_wp2_with fail
                    refine (HPK.out _ HB32.out).mono ?_
                    rintro e33 w33 ⟨rfl, hb⟩
                    have HB33 := Lib.hid (HB32.out.trans (hb.mono HB32.out.size))
                    have HX33 := Lib.hid (HX32.out.later hb)
                    have HS33 := Lib.hid (HS32.out.later hb)
                    have HT33 := Lib.hid (HT32.out.later hb)
                    clear hb
                    clear X0 X1 Xf Xz S0 S1 S2 Sz T0 T1 T2 Tz n0 n1 b1z
                    have X0 := HX33.out.cell 0
                    have X1 := HX33.out.cell 1
                    have Xf := HX33.out.frozen
                    have Xz := HX33.out.lt
                    have S0 := HS33.out.cell 0
                    have S1 := HS33.out.cell 1
                    have S2 := HS33.out.cell 2
                    have Sz := HS33.out.lt
                    have T0 := HT33.out.cell 0
                    have T1 := HT33.out.cell 1
                    have T2 := HT33.out.cell 2
                    have Tz := HT33.out.lt
                    simp only [List.getElem?_cons_zero, List.getElem?_cons_succ] at X0 X1 S0 S1 S2 T0 T1 T2
                    obtain ⟨n0, n1⟩ := (HCN.out.below HB33.out hbb1).c2
                    have b1z := Nat.lt_of_lt_of_le hbb1 HB33.out.size
                    go_wp2_with fail
                    refine (HPF.out _ HB33.out).mono ?_
                    rintro e34 w34 ⟨rfl, hb⟩
                    have HB34 := Lib.hid (HB33.out.trans (hb.mono HB33.out.size))
                    have HX34 := Lib.hid (HX33.out.later hb)
                    have HS34 := Lib.hid (HS33.out.later hb)
                    have HT34 := Lib.hid (HT33.out.later hb)
                    clear hb
                    clear X0 X1 Xf Xz S0 S1 S2 Sz T0 T1 T2 Tz n0 n1 b1z
                    have X0 := HX34.out.cell 0
                    have X1 := HX34.out.cell 1
                    have Xf := HX34.out.frozen
                    have Xz := HX34.out.lt
                    have S0 := HS34.out.cell 0
                    have S1 := HS34.out.cell 1
                    have S2 := HS34.out.cell 2
                    have Sz := HS34.out.lt
                    have T0 := HT34.out.cell 0
                    have T1 := HT34.out.cell 1
                    have T2 := HT34.out.cell 2
                    have Tz := HT34.out.lt
                    simp only [List.getElem?_cons_zero, List.getElem?_cons_succ] at X0 X1 S0 S1 S2 T0 T1 T2
                    obtain ⟨n0, n1⟩ := (HCN.out.below HB34.out hbb1).c2
                    have b1z := Nat.lt_of_lt_of_le hbb1 HB34.out.size
                    have gqf := HGQ.out
                    have gqn := bne_of gqf
                    cases gq with
                    | true =>
                      have HV := Lib.hid (HVD.out.trans (show _ = true by simp))
                      go_wp2_with fail
                      go_roundw
                      case rel => exact ⟨k + 1, by omega, by go_num, HB34.out, HX34.out, fun i hi => (Nat.lt_succ_iff_lt_or_eq.1 hi).elim (HOK.out i) (fun h => by rw [h]; exact HV.out)⟩
                      case measure => simp [intOf]; omega
                    | false =>
                      have HV := Lib.hid (HNO.out (HVD.out.trans (by simp)))
                      go_wp2_with fail
                      go_ret
                      exact ⟨by rw [HV.out]; rfl, HB34.out⟩
                | false =>
                  go_wp2_with fail
                  refine (HPK.out _ HB32.out).mono ?_
                  rintro e35 w35 ⟨rfl, hb⟩
                  have HB35 := Lib.hid (HB32.out.trans (hb.mono HB32.out.size))
                  have HX35 := Lib.hid (HX32.out.later hb)
                  have HS35 := Lib.hid (HS32.out.later hb)
                  have HT35 := Lib.hid (HT32.out.later hb)
                  clear hb
                  clear X0 X1 Xf Xz S0 S1 S2 Sz T0 T1 T2 Tz n0 n1 b1z
                  have X0 := HX35.out.cell 0
                  have X1 := HX35.out.cell 1
                  have Xf := HX35.out.frozen
                  have Xz := HX35.out.lt
                  have S0 := HS35.out.cell 0
                  have S1 := HS35.out.cell 1
                  have S2 := HS35.out.cell 2
                  have Sz := HS35.out.lt
                  have T0 := HT35.out.cell 0
                  have T1 := HT35.out.cell 1
                  have T2 := HT35.out.cell 2
                  have Tz := HT35.out.lt
                  simp only [List.getElem?_cons_zero, List.getElem?_cons_succ] at X0 X1 S0 S1 S2 T0 T1 T2
                  obtain ⟨n0, n1⟩ := (HCN.out.below HB35.out hbb1).c2
                  have b1z := Nat.lt_of_lt_of_le hbb1 HB35.out.size
                  go_wp2_with fail
                  refine (HPF.out _ HB35.out).mono ?_
                  rintro e36 w36 ⟨rfl, hb⟩
                  have HB36 := Lib.hid (HB35.out.trans (hb.mono HB35.out.size))
                  have HX36 := Lib.hid (HX35.out.later hb)
                  have HS36 := Lib.hid (HS35.out.later hb)
                  have HT36 := Lib.hid (HT35.out.later hb)
                  clear hb
                  clear X0 X1 Xf Xz S0 S1 S2 Sz T0 T1 T2 Tz n0 n1 b1z
                  have X0 := HX36.out.cell 0
                  have X1 := HX36.out.cell 1
                  have Xf := HX36.out.frozen
                  have Xz := HX36.out.lt
                  have S0 := HS36.out.cell 0
                  have S1 := HS36.out.cell 1
                  have S2 := HS36.out.cell 2
                  have Sz := HS36.out.lt
                  have T0 := HT36.out.cell 0
                  have T1 := HT36.out.cell 1
                  have T2 := HT36.out.cell 2
                  have Tz := HT36.out.lt
                  simp only [List.getElem?_cons_zero, List.getElem?_cons_succ] at X0 X1 S0 S1 S2 T0 T1 T2
                  obtain ⟨n0, n1⟩ := (HCN.out.below HB36.out hbb1).c2
                  have b1z := Nat.lt_of_lt_of_le hbb1 HB36.out.size
                  have HV := Lib.hid (HVD.out.trans (show _ = true by simp))
                  go_wp2_with fail
                  go_roundw
                  case rel => exact ⟨k + 1, by omega, by go_num, HB36.out, HX36.out, fun i hi => (Nat.lt_succ_iff_lt_or_eq.1 hi).elim (HOK.out i) (fun h => by rw [h]; exact HV.out)⟩
                  case measure => simp [intOf]; omega
            | false =>
              go_wp2_with fail
              refine (HPF.out _ HB31.out).mono ?_
              rintro e37 w37 ⟨rfl, hb⟩
              have HB37 := Lib.hid (HB31.out.trans (hb.mono HB31.out.size))
              have HX37 := Lib.hid (HX31.out.later hb)
              have HS37 := Lib.hid (HS31.out.later hb)
              have HT37 := Lib.hid (HT31.out.later hb)
              clear hb
              clear X0 X1 Xf Xz S0 S1 S2 Sz T0 T1 T2 Tz n0 n1 b1z
              have X0 := HX37.out.cell 0
              have X1 := HX37.out.cell 1
              have Xf := HX37.out.frozen
              have Xz := HX37.out.lt
              have S0 := HS37.out.cell 0
              have S1 := HS37.out.cell 1
              have S2 := HS37.out.cell 2
              have Sz := HS37.out.lt
              have T0 := HT37.out.cell 0
              have T1 := HT37.out.cell 1
              have T2 := HT37.out.cell 2
              have Tz := HT37.out.lt
              simp only [List.getElem?_cons_zero, List.getElem?_cons_succ] at X0 X1 S0 S1 S2 T0 T1 T2
              obtain ⟨n0, n1⟩ := (HCN.out.below HB37.out hbb1).c2
              have b1z := Nat.lt_of_lt_of_le hbb1 HB37.out.size
              cases kk with
              | true =>
                have gke2 := HGKE.out
                cases gke with
                | true =>
                  have gk0 := empty_of gke2
                  have HV := Lib.hid (HNO.out (HVD.out.trans (by simp)))
                  go_wp2_with fail
                  go_ret
                  exact ⟨by rw [HV.out]; rfl, HB37.out⟩
                | false =>
                  have gk0 := ne_empty_of gke2
                  go_wp2_with fail
                  refine (HPK.out _ HB37.out).mono ?_
                  rintro e38 w38 ⟨rfl, hb⟩
                  have HB38 := Lib.hid (HB37.out.trans (hb.mono HB37.out.size))
                  have HX38 := Lib.hid (HX37.out.later hb)
                  have HS38 := Lib.hid (HS37.out.later hb)
                  have HT38 := Lib.hid (HT37.out.later hb)
                  clear hb
                  clear X0 X1 Xf Xz S0 S1 S2 Sz T0 T1 T2 Tz n0 n1 b1z
                  have X0 := HX38.out.cell 0
                  have X1 := HX38.out.cell 1
                  have Xf := HX38.out.frozen
                  have Xz := HX38.out.lt
                  have S0 := HS38.out.cell 0
                  have S1 := HS38.out.cell 1
                  have S2 := HS38.out.cell 2
                  have Sz := HS38.out.lt
                  have T0 := HT38.out.cell 0
                  have T1 := HT38.out.cell 1
                  have T2 := HT38.out.cell 2
                  have Tz := HT38.out.lt
                  simp only [List.getElem?_cons_zero, List.getElem?_cons_succ] at X0 X1 S0 S1 S2 T0 T1 T2
                  obtain ⟨n0, n1⟩ := (HCN.out.below HB38.out hbb1).c2
                  have b1z := Nat.lt_of_lt_of_le hbb1 HB38.out.size
                  have HV := Lib.hid (HVD.out.trans (show _ = true by simp))
                  go_wp2_with fail
                  go_roundw
                  case rel => exact ⟨k + 1, by omega, by go_num, HB38.out, HX38.out, fun i hi => (Nat.lt_succ_iff_lt_or_eq.1 hi).elim (HOK.out i) (fun h => by rw [h]; exact HV.out)⟩
                  case measure => simp [intOf]; omega
              | false =>
                go_wp2_with fail
                refine (HPK.out _ HB37.out).mono ?_
                rintro e39 w39 ⟨rfl, hb⟩
                have HB39 := Lib.hid (HB37.out.trans (hb.mono HB37.out.size))
                have HX39 := Lib.hid (HX37.out.later hb)
                have HS39 := Lib.hid (HS37.out.later hb)
                have HT39 := Lib.hid (HT37.out.later hb)
                clear hb
                clear X0 X1 Xf Xz S0 S1 S2 Sz T0 T1 T2 Tz n0 n1 b1z
                have X0 := HX39.out.cell 0
                have X1 := HX39.out.cell 1
                have Xf := HX39.out.frozen
                have Xz := HX39.out.lt
                have S0 := HS39.out.cell 0
                have S1 := HS39.out.cell 1
                have S2 := HS39.out.cell 2
                have Sz := HS39.out.lt
                have T0 := HT39.out.cell 0
                have T1 := HT39.out.cell 1
                have T2 := HT39.out.cell 2
                have Tz := HT39.out.lt
                simp only [List.getElem?_cons_zero, List.getElem?_cons_succ] at X0 X1 S0 S1 S2 T0 T1 T2
                obtain ⟨n0, n1⟩ := (HCN.out.below HB39.out hbb1).c2
                have b1z := Nat.lt_of_lt_of_le hbb1 HB39.out.size
                have HV := Lib.hid (HVD.out.trans (show _ = true by simp))
                go_wp2_with fail
                go_roundw
                case rel => exact ⟨k + 1, by omega, by go_num, HB39.out, HX39.out, fun i hi => (Nat.lt_succ_iff_lt_or_eq.1 hi).elim (HOK.out i) (fun h => by rw [h]; exact HV.out)⟩
                case measure => simp [intOf]; omega
        | false =>
          go_wp2_with fail
          refine (HPK.out _ HB.out).mono ?_
          rintro e40 w40 ⟨rfl, hb⟩
          have HB40 := Lib.hid (HB.out.trans (hb.mono HB.out.size))
          have HX40 := Lib.hid (HX.out.later hb)
          have HS40 := Lib.hid (HS.out.later hb)
          have HT40 := Lib.hid (HT.out.later hb)
          clear hb
          clear X0 X1 Xf Xz S0 S1 S2 Sz T0 T1 T2 Tz n0 n1 b1z
          have X0 := HX40.out.cell 0
          have X1 := HX40.out.cell 1
          have Xf := HX40.out.frozen
          have Xz := HX40.out.lt
          have S0 := HS40.out.cell 0
          have S1 := HS40.out.cell 1
          have S2 := HS40.out.cell 2
          have Sz := HS40.out.lt
          have T0 := HT40.out.cell 0
          have T1 := HT40.out.cell 1
          have T2 := HT40.out.cell 2
          have Tz := HT40.out.lt
          simp only [List.getElem?_cons_zero, List.getElem?_cons_succ] at X0 X1 S0 S1 S2 T0 T1 T2
          obtain ⟨n0, n1⟩ := (HCN.out.below HB40.out hbb1).c2
          have b1z := Nat.lt_of_lt_of_le hbb1 HB40.out.size
          cases km with
          | true =>
            have ge2 := HGE.out
            cases ge with
            | true =>
              have g0 := empty_of ge2
              have HV := Lib.hid (HNO.out (HVD.out.trans (by simp)))
              go_wp2_with fail
              go_ret
              exact ⟨by rw [HV.out]; rfl, HB40.out⟩
            | false =>
              have g0 := ne_empty_of ge2
              go_wp2_with fail
              refine (HPF.out _ HB40.out).mono ?_
              rintro e41 w41 ⟨rfl, hb⟩
              have HB41 := Lib.hid (HB40.out.trans (hb.mono HB40.out.size))
              have HX41 := Lib.hid (HX40.out.later hb)
              have HS41 := Lib.hid (HS40.out.later hb)
              have HT41 := Lib.hid (HT40.out.later hb)
              clear hb
              clear X0 X1 Xf Xz S0 S1 S2 Sz T0 T1 T2 Tz n0 n1 b1z
              have X0 := HX41.out.cell 0
              have X1 := HX41.out.cell 1
              have Xf := HX41.out.frozen
              have Xz := HX41.out.lt
              have S0 := HS41.out.cell 0
              have S1 := HS41.out.cell 1
              have S2 := HS41.out.cell 2
              have Sz := HS41.out.lt
              have T0 := HT41.out.cell 0
              have T1 := HT41.out.cell 1
              have T2 := HT41.out.cell 2
              have Tz := HT41.out.lt
              simp only [List.getElem?_cons_zero, List.getElem?_cons_succ] at X0 X1 S0 S1 S2 T0 T1 T2
              obtain ⟨n0, n1⟩ := (HCN.out.below HB41.out hbb1).c2
              have b1z := Nat.lt_of_lt_of_le hbb1 HB41.out.size
              cases kk with
              | true =>
                have gke2 := HGKE.out
                cases gke with
                | true =>
                  have gk0 := empty_of gke2
                  have HV := Lib.hid (HNO.out (HVD.out.trans (by simp)))
                  go_wp2_with fail
                  go_ret
                  exact ⟨by rw [HV.out]; rfl, HB41.out⟩
                | false =>
                  have gk0 := ne_empty_of gke2
                  go_wp2_with fail
                  refine (HPK.out _ HB41.out).mono ?_
                  rintro e42 w42 ⟨rfl, hb⟩
                  have HB42 := Lib.hid (HB41.out.trans (hb.mono HB41.out.size))
                  have HX42 := Lib.hid (HX41.out.later hb)
                  have HS42 := Lib.hid (HS41.out.later hb)
                  have HT42 := Lib.hid (HT41.out.later hb)
                  clear hb
                  clear X0 X1 Xf Xz S0 S1 S2 Sz T0 T1 T2 Tz n0 n1 b1z
                  have X0 := HX42.out.cell 0
                  have X1 := HX42.out.cell 1
                  have Xf := HX42.out.frozen
                  have Xz := HX42.out.lt
                  have S0 := HS42.out.cell 0
                  have S1 := HS42.out.cell 1
                  have S2 := HS42.out.cell 2
                  have Sz := HS42.out.lt
                  have T0 := HT42.out.cell 0
                  have T1 := HT42.out.cell 1
                  have T2 := HT42.out.cell 2
                  have Tz := HT42.out.lt
                  simp only [List.getElem?_cons_zero, List.getElem?_cons_succ] at X0 X1 S0 S1 S2 T0 T1 T2
                  obtain ⟨n0, n1⟩ := (HCN.out.below HB42.out hbb1).c2
                  have b1z := Nat.lt_of_lt_of_le hbb1 HB42.out.size
                  go_wp2_with fail
                  refine (HPF.out _ HB42.out).mono ?_
                  rintro e43 w43 ⟨rfl, hb⟩
                  have HB43 := Lib.hid (HB42.out.trans (hb.mono HB42.out.size))
                  have HX43 := Lib.hid (HX42.out.later hb)
                  have HS43 := Lib.hid (HS42.out.later hb)
                  have HT43 := Lib.hid (HT42.out.later hb)
                  clear hb
                  clear X0 X1 Xf Xz S0 S1 S2 Sz T0 T1 T2 Tz n0 n1 b1z
                  have X0 := HX43.out.cell 0
                  have X1 := HX43.out.cell 1
                  have Xf := HX43.out.frozen
                  have Xz := HX43.out.lt
                  have S0 := HS43.out.cell 0
                  have S1 := HS43.out.cell 1
                  have S2 := HS43.out.cell 2
                  have Sz := HS43.out.lt
                  have T0 := HT43.out.cell 0
                  have T1 := HT43.out.cell 1
                  have T2 := HT43.out.cell 2
                  have Tz := HT43.out.lt
                  simp only [List.getElem?_cons_zero, List.getElem?_cons_succ] at X0 X1 S0 S1 S2 T0 T1 T2
                  obtain ⟨n0, n1⟩ := (HCN.out.below HB43.out hbb1).c2
                  have b1z := Nat.lt_of_lt_of_le hbb1 HB43.out.size
                  have gqf := HGQ.out
                  have gqn := bne_of gqf
                  cases gq with
                  | true =>
                    have HV := Lib.hid (HVD.out.trans (show _ = true by simp))
                    go_wp2_with fail
                    go_roundw
                    case rel => exact ⟨k + 1, by omega, by go_num, HB43.out, HX43.out, fun i hi => (Nat.lt_succ_iff_lt_or_eq.1 hi).elim (HOK.out i) (fun h => by rw [h]; exact HV.out)⟩
                    case measure => simp [intOf]; omega
                  | false =>
                    have HV := Lib.hid (HNO.out (HVD.out.trans (by simp)))
                    go_wp2_with fail
                    go_ret
                    exact ⟨by rw [HV.out]; rfl, HB43.out⟩
              | false =>
                go_wp2_with fail
                refine (HPK.out _ HB41.out).mono ?_
                rintro e44 w44 ⟨rfl, hb⟩
                have HB44 := Lib.hid (HB41.out.trans (hb.mono HB41.out.size))
                have HX44 := Lib.hid (HX41.out.later hb)
                have HS44 := Lib.hid (HS41.out.later hb)
                have HT44 := Lib.hid (HT41.out.later hb)
                clear hb
                clear X0 X1 Xf Xz S0 S1 S2 Sz T0 T1 T2 Tz n0 n1 b1z
                have X0 := HX44.out.cell 0
                have X1 := HX44.out.cell 1
                have Xf := HX44.out.frozen
                have Xz := HX44.out.lt
                have S0 := HS44.out.cell 0
                have S1 := HS44.out.cell 1
                have S2 := HS44.out.cell 2
                have Sz := HS44.out.lt
                have T0 := HT44.out.cell 0
                have T1 := HT44.out.cell 1
                have T2 := HT44.out.cell 2
                have Tz := HT44.out.lt
                simp only [List.getElem?_cons_zero, List.getElem?_cons_succ] at X0 X1 S0 S1 S2 T0 T1 T2
                obtain ⟨n0, n1⟩ := (HCN.out.below HB44.out hbb1).c2
                have b1z := Nat.lt_of_lt_of_le hbb1 HB44.out.size
                go_wp2_with fail
                refine (HPF.out _ HB44.out).mono ?_
                rintro e45 w45 ⟨rfl, hb⟩
                have HB45 := Lib.hid (HB44.out.trans (hb.mono HB44.out.size))
                have HX45 := Lib.hid (HX44.out.later hb)
                have HS45 := Lib.hid (HS44.out.later hb)
                have HT45 := Lib.hid (HT44.out.later hb)
                clear hb
                clear X0 X1 Xf Xz S0 S1 S2 Sz T0 T1 T2 Tz n0 n1 b1z
                have X0 := HX45.out.cell 0
                have X1 := HX45.out.cell 1
                have Xf := HX45.out.frozen
                have Xz := HX45.out.lt
                have S0 := HS45.out.cell 0
                have S1 := HS45.out.cell 1
                have S2 := HS45.out.cell 2
                have Sz := HS45.out.lt
                have T0 := HT45.out.cell 0
                have T1 := HT45.out.cell 1
                have T2 := HT45.out.cell 2
                have Tz := HT45.out.lt
                simp only [List.getElem?_cons_zero, List.getElem?_cons_succ] at X0 X1 S0 S1 S2 T0 T1 T2
                obtain ⟨n0, n1⟩ := (HCN.out.below HB45.out hbb1).c2
                have b1z := Nat.lt_of_lt_of_le hbb1 HB45.out.size
                have HV := Lib.hid (HVD.out.trans (show _ = true by simp))
                go_wp2_with fail
                go_roundw
                case rel => exact ⟨k + 1, by omega, by go_num, HB45.out, HX45.out, fun i hi => (Nat.lt_succ_iff_lt_or_eq.1 hi).elim (HOK.out i) (fun h => by rw [h]; exact HV.out)⟩
                case measure => simp [intOf]; omega
          | false =>
            go_wp2_with fail
            refine (HPF.out _ HB40.out).mono ?_
            rintro e46 w46 ⟨rfl, hb⟩
            have HB46 := Lib.hid (HB40.out.trans (hb.mono HB40.out.size))
            have HX46 := Lib.hid (HX40.out.later hb)
            have HS46 := Lib.hid (HS40.out.later hb)
            have HT46 := Lib.hid (HT40.out.later hb)
            clear hb
            clear X0 X1 Xf Xz S0 S1 S2 Sz T0 T1 T2 Tz n0 n1 b1z
            have X0 := HX46.out.cell 0
            have X1 := HX46.out.cell 1
            have Xf := HX46.out.frozen
            have Xz := HX46.out.lt
            have S0 := HS46.out.cell 0
            have S1 := HS46.out.cell 1
            have S2 := HS46.out.cell 2
            have Sz := HS46.out.lt
            have T0 := HT46.out.cell 0
            have T1 := HT46.out.cell 1
            have T2 := HT46.out.cell 2
            have Tz := HT46.out.lt
            simp only [List.getElem?_cons_zero, List.getElem?_cons_succ] at X0 X1 S0 S1 S2 T0 T1 T2
            obtain ⟨n0, n1⟩ := (HCN.out.below HB46.out hbb1).c2
            have b1z := Nat.lt_of_lt_of_le hbb1 HB46.out.size
            cases kk with
            | true =>
              have gke2 := HGKE.out
              cases gke with
              | true =>
                have gk0 := empty_of gke2
                have HV := Lib.hid (HNO.out (HVD.out.trans (by simp)))
                go_wp2_with fail
                go_ret
                exact ⟨by rw [HV.out]; rfl, HB46.out⟩
              | false =>
                have gk0 := ne_empty_of gke2
                go_wp2_with fail
                refine (HPK.out _ HB46.out).mono ?_
                rintro e47 w47 ⟨rfl, hb⟩
                have HB47 := Lib.hid (HB46.out.trans (hb.mono HB46.out.size))
                have HX47 := Lib.hid (HX46.out.later hb)
                have HS47 := Lib.hid (HS46.out.later hb)
                have HT47 := Lib.hid (HT46.out.later hb)
                clear hb
                clear X0 X1 Xf Xz S0 S1 S2 Sz T0 T1 T2 Tz n0 n1 b1z
                have X0 := HX47.out.cell 0
                have X1 := HX47.out.cell 1
                have Xf := HX47.out.frozen
                have Xz := HX47.out.lt
                have S0 := HS47.out.cell 0
                have S1 := HS47.out.cell 1
                have S2 := HS47.out.cell 2
                have Sz := HS47.out.lt
                have T0 := HT47.out.cell 0
                have T1 := HT47.out.cell 1
                have T2 := HT47.out.cell 2
                have Tz := HT47.out.lt
                simp only [List.getElem?_cons_zero, List.getElem?_cons_succ] at X0 X1 S0 S1 S2 T0 T1 T2
                obtain ⟨n0, n1⟩ := (HCN.out.below HB47.out hbb1).c2
                have b1z := Nat.lt_of_lt_of_le hbb1 HB47.out.size
                have HV := Lib.hid (HVD.out.trans (show _ = true by simp))
                go_wp2_with fail
                go_roundw
                case rel => exact ⟨k + 1, by omega, by go_num, HB47.out, HX47.out, fun i hi => (Nat.lt_succ_iff_lt_or_eq.1 hi).elim (HOK.out i) (fun h => by rw [h]; exact HV.out)⟩
                case measure => simp [intOf]; omega
            | false =>
              go_wp2_with fail
              refine (HPK.out _ HB46.out).mono ?_
              rintro e48 w48 ⟨rfl, hb⟩
              have HB48 := Lib.hid (HB46.out.trans (hb.mono HB46.out.size))
              have HX48 := Lib.hid (HX46.out.later hb)
              have HS48 := Lib.hid (HS46.out.later hb)
              have HT48 := Lib.hid (HT46.out.later hb)
              clear hb
              clear X0 X1 Xf Xz S0 S1 S2 Sz T0 T1 T2 Tz n0 n1 b1z
              have X0 := HX48.out.cell 0
              have X1 := HX48.out.cell 1
              have Xf := HX48.out.frozen
              have Xz := HX48.out.lt
              have S0 := HS48.out.cell 0
              have S1 := HS48.out.cell 1
              have S2 := HS48.out.cell 2
              have Sz := HS48.out.lt
              have T0 := HT48.out.cell 0
              have T1 := HT48.out.cell 1
              have T2 := HT48.out.cell 2
              have Tz := HT48.out.lt
              simp only [List.getElem?_cons_zero, List.getElem?_cons_succ] at X0 X1 S0 S1 S2 T0 T1 T2
              obtain ⟨n0, n1⟩ := (HCN.out.below HB48.out hbb1).c2
              have b1z := Nat.lt_of_lt_of_le hbb1 HB48.out.size
              have HV := Lib.hid (HVD.out.trans (show _ = true by simp))
              go_wp2_with fail
              go_roundw
              case rel => exact ⟨k + 1, by omega, by go_num, HB48.out, HX48.out, fun i hi => (Nat.lt_succ_iff_lt_or_eq.1 hi).elim (HOK.out i) (fun h => by rw [h]; exact HV.out)⟩
              case measure => simp [intOf]; omega
end Go.Proofs.YtahpdkkpnkhnhaaGreatDoor
