/- Lemmas on the way to the law TopOneGrain (part 5): YAk YAl YBa -/
import Derived.Test.YtpafjhjpchdcdaaGreatDoorTopOneGrainP04
set_option linter.unusedVariables false
set_option linter.unusedSimpArgs false

/- Walks: bushelref05.IsPath. -/
namespace Go.Proofs.YtpafjhjpchdcdaaGreatDoor
open Go Go.Proofs Go.RowKit Go.Shelf
set_option maxRecDepth 100000 in
set_option maxHeartbeats 1000000 in
theorem isPath89 (w : World) (v1 v2 u : Value) (p : Pl) (l : List Int) (hv : PlR w w.heap.size v1 v2 p) (hu : Sl encI 1 w w.heap.size u l) (hin : ∀ x ∈ l, inN p.ms.length x = true) : Calls Tryz.prog 18 #[.agg #[v1, v2], u] w (Ret (.bool (pathB p l)) w) := by
  have HU := Lib.hid hu
  have HAR := Lib.hid hv.arcs
  obtain ⟨⟨a1, n1, rfl, hl1, hA1⟩, ⟨a2, n2, rfl, hl2, hA2⟩⟩ := hv
  obtain ⟨a, c, rfl, hlen, hA⟩ := hu
  have HA1 := Lib.hid hA1
  have HA := Lib.hid hA
  have HIN := Lib.hid hin
  clear hA1 hA2 hA hl2 hin
  obtain ⟨h11, h12⟩ := hl1
  obtain ⟨hl, hlc⟩ := hlen
  obtain ⟨R, hR⟩ : ∃ R, pathB p l = R := ⟨_, rfl⟩
  rw [hR]
  have HR := Lib.hid hR
  clear hR
  have HB := Lib.hid ((Below.refl w.heap.size w).alloc (Nat.le_refl _) (.cells #[.slice a1 p.ms.length n1, .slice a2 p.arcs.length n2] 25))
  have HX := Lib.hid (Box.new w #[.slice a1 p.ms.length n1, .slice a2 p.arcs.length n2] 25)
  obtain ⟨n, hn⟩ : ∃ n, p.ms.length = n := ⟨_, rfl⟩
  obtain ⟨m, hm⟩ : ∃ m, p.arcs.length = m := ⟨_, rfl⟩
  obtain ⟨ln, hln⟩ : ∃ m, l.length = m := ⟨_, rfl⟩
  rw [hn] at HB HX h11 h12 HIN ⊢
  rw [hm] at HB HX HAR ⊢
  rw [hln] at hl hlc HU ⊢
  have HN := Lib.hid hn
  have HM := Lib.hid hm
  have HLN := Lib.hid hln
  clear hn hm hln
  have HUL := Lib.hid (fun (w1 : World) (hb : Below w.heap.size w w1) => HU.out.later hb)
  go_enter Tryz.func18, Tryz.ntmps18
  by_cases h2 : ln < 2
  · have k0 : decide ((ln : Int) < 2) = true := decide_eq_true (by omega)
    have HV := Lib.hid (pathB_no HR.out (fun h => by have := h.1; rw [HLN.out] at this; omega))
    go_wp2_with fail
    go_quiet (fail)
    go_wp2_with fail
    go_ret
    exact ⟨by rw [HV.out]; rfl, below_drewN HB.out _⟩
  obtain ⟨e, rfl⟩ : ∃ e, ln = e + 1 := ⟨ln - 1, by omega⟩
  have k0 : decide (((e + 1 : Nat) : Int) < 2) = false := decide_eq_false (by omega)
  have k0' : decide ((e : Int) + 1 < 2) = false := decide_eq_false (by omega)
  have hpos : 0 < l.length := by rw [HLN.out]; omega
  have hel : e < l.length := by rw [HLN.out]; omega
  obtain ⟨b, off, rfl, hbb, hcells⟩ := HA.out hpos
  have HC := Lib.hid hcells
  have c0 := (hcells 0 hpos).c1
  rw [Nat.zero_mul, Nat.add_zero] at c0
  obtain ⟨x0, hx0, hx0n⟩ := inN_nat (HIN.out l[0] (List.getElem_mem hpos))
  obtain ⟨xe, hxe, hxen⟩ := inN_nat (HIN.out l[e] (List.getElem_mem hel))
  rw [hx0] at c0
  have HX0 := Lib.hid (show l.getD 0 0 = (x0 : Int) by rw [getD_at l 0 hpos, hx0])
  have HXE := Lib.hid (show l.getD (l.length - 1) 0 = (xe : Int) by rw [show l.length - 1 = e by rw [HLN.out]; rfl, getD_at l e hel, hxe])
  have hx0l : x0 < p.ms.length := by rw [HN.out]; exact hx0n
  have hxel : xe < p.ms.length := by rw [HN.out]; exact hxen
  obtain ⟨b1, off1, rfl, hbb1, hcells1⟩ := HA1.out (by omega)
  have HC1 := Lib.hid hcells1
  obtain ⟨ct0, ct1⟩ := (hcells1 x0 hx0l).c2
  have HK0 := Lib.hid (kdA_nat hx0l)
  have HKE := Lib.hid (kdA_nat hxel)
  have HCE := Lib.hid (hcells1 xe hxel)
  have HCL := Lib.hid (show At w b (off + e * 1) (encI xe) by rw [← hxe]; exact hcells e hel)
  clear hcells hcells1 hx0 hxe hpos
  generalize p.ms[x0] = m0 at *
  generalize p.ms[xe] = me at *
  clear hel hx0l hxel
  obtain ⟨s0, t0⟩ := m0
  obtain ⟨se, te⟩ := me
  dsimp only at ct0 ct1 HK0 HKE
  have HBX := Lib.hid (fun (X : Later (w.alloc (.cells #[.slice (some ⟨b1, off1, none⟩) n n1, .slice a2 m n2] 25))) => HB.out.trans (X.h.mono HB.out.size))
  have HK126 := Lib.hid (fun (X : Later (w.alloc (.cells #[.slice (some ⟨b1, off1, none⟩) n n1, .slice a2 m n2] 25))) => twice126 _ l X.w (HUL.out _ (HBX.out X)))
  have HK86 := Lib.hid (fun (X : Later (w.alloc (.cells #[.slice (some ⟨b1, off1, none⟩) n n1, .slice a2 m n2] 25))) => isFirst86 s0 X.w)
  have HK87 := Lib.hid (fun (X : Later (w.alloc (.cells #[.slice (some ⟨b1, off1, none⟩) n n1, .slice a2 m n2] 25))) => isLast87 se X.w)
  obtain ⟨qd, hqd⟩ : ∃ q, dupB l = q := ⟨_, rfl⟩
  obtain ⟨q0, hq0⟩ : ∃ q, bgB s0 = q := ⟨_, rfl⟩
  obtain ⟨qe, hqe⟩ : ∃ q, enB se = q := ⟨_, rfl⟩
  rw [hqd] at HK126
  rw [hq0] at HK86
  rw [hqe] at HK87
  have HQD := Lib.hid hqd
  have HQ0 := Lib.hid hq0
  have HQE := Lib.hid hqe
  clear hq0 hqe hqd
  have d0 := HCL.out.c1
  obtain ⟨de0, de1⟩ := HCE.out.c2
  rw [Nat.mul_one] at d0
  have hbz : b < w.heap.size := hbb
  have hb1z : b1 < w.heap.size := hbb1
  cases qd with
  | true =>
    have HV := Lib.hid (pathB_no HR.out (fun h => by have := (nodup_dup l).2 h.2.2.2.1; rw [HQD.out] at this; cases this))
    go_wp2_with fail
    refine wp_region_later (by kernel_rfl) (by kernel_rfl) ?_
    repeat go_big_quiet_step ((first | (go_at_call 49; exact Calls.later (HK126.out _)) | (go_at_call 43; exact Calls.later_same (HK86.out _)) | (go_at_call 44; exact Calls.later_same (HK87.out _))))
    refine wpQuiet_nil ?_
    rintro w2 ⟨⟨_, hb2⟩, rfl⟩
    go_wp2_with fail
    go_ret
    exact ⟨by rw [HV.out]; rfl, HB.out.trans (hb2.mono HB.out.size)⟩
  | false =>
  cases q0 with
  | false =>
    have HV := Lib.hid (pathB_no HR.out (fun h => by have := h.2.1; rw [HX0.out, HK0.out, HQ0.out] at this; cases this))
    go_wp2_with fail
    refine wp_region_later (by kernel_rfl) (by kernel_rfl) ?_
    repeat go_big_quiet_step ((first | (go_at_call 49; exact Calls.later (HK126.out _)) | (go_at_call 43; exact Calls.later_same (HK86.out _)) | (go_at_call 44; exact Calls.later_same (HK87.out _))))
    refine wpQuiet_nil ?_
    rintro w2 ⟨⟨_, hb2⟩, rfl⟩
    go_wp2_with fail
    go_ret
    exact ⟨by rw [HV.out]; rfl, HB.out.trans (hb2.mono HB.out.size)⟩
  | true =>
  cases qe with
  | false =>
    have HV := Lib.hid (pathB_no HR.out (fun h => by have := h.2.2.1; rw [HXE.out, HKE.out, HQE.out] at this; cases this))
    go_wp2_with fail
    refine wp_region_later (by kernel_rfl) (by kernel_rfl) ?_
    repeat go_big_quiet_step ((first | (go_at_call 49; exact Calls.later (HK126.out _)) | (go_at_call 43; exact Calls.later_same (HK86.out _)) | (go_at_call 44; exact Calls.later_same (HK87.out _))))
    refine wpQuiet_nil ?_
    rintro w2 ⟨⟨_, hb2⟩, rfl⟩
    go_wp2_with fail
    go_ret
    exact ⟨by rw [HV.out]; rfl, HB.out.trans (hb2.mono HB.out.size)⟩
  | true =>
    go_wp2_with fail
    refine wp_region_later (by kernel_rfl) (by kernel_rfl) ?_
    repeat go_big_quiet_step ((first | (go_at_call 49; exact Calls.later (HK126.out _)) | (go_at_call 43; exact Calls.later_same (HK86.out _)) | (go_at_call 44; exact Calls.later_same (HK87.out _))))
    refine wpQuiet_nil ?_
    rintro w2 ⟨⟨_, hb2⟩, rfl⟩
    go_wp2_with fail
    have HR2 := Lib.hid (fun (h' : ∀ k, k < l.length → okK p l k = true) => show R = true by rw [← HR.out]; exact (pathB_iff p l).2 ⟨by rw [HLN.out]; omega, by rw [HX0.out, HK0.out]; exact HQ0.out, by rw [HXE.out, HKE.out]; exact HQE.out, (nodup_dup l).1 HQD.out, h'⟩)
    have HB2 := Lib.hid (HB.out.trans (hb2.mono HB.out.size))
    have HX2 := Lib.hid (HX.out.later hb2)
    clear HB HX HBX hb2 HK86 HK87 HK126 ct0 ct1 c0 d0 de0 de1 HK0 HKE HX0 HXE HQ0 HQE HCL HCE HQD
    go_loopw [6] (fun i wr => ∃ k : Nat, 1 ≤ k ∧ k ≤ e + 1 ∧ i = .int .i64 k ∧ Below w.heap.size w wr ∧ Box wr w.heap.size 25 [.slice (some ⟨b1, off1, none⟩) n n1, .slice a2 m n2] ∧ ∀ j, j < k → okK p l j = true) (fun i _ => e + 1 - (intOf i).toNat)
    case atStart => exact ⟨1, by omega, by omega, rfl, HB2.out, HX2.out, fun j hj => by rw [show j = 0 from Nat.lt_one_iff.1 hj]; rfl⟩
    case round =>
      clear HB2 HX2
      obtain ⟨k, hk1, hk, rfl, hbe, hx, hok⟩ := hrel
      obtain ⟨j, rfl⟩ : ∃ j, k = j + 1 := ⟨k - 1, by omega⟩
      clear hk1
      have HOK := Lib.hid hok
      have HBE := Lib.hid hbe
      have HXE := Lib.hid hx
      obtain ⟨x0, x1, xf, xz⟩ := hx.v2
      clear hok
      by_cases hlt : j < e
      rotate_left
      · obtain rfl : j = e := by omega
        have HV := Lib.hid (HR2.out (fun k hk => HOK.out k (by rw [HLN.out] at hk; exact hk)))
        clear hbe hx
        go_wp2_with fail
        go_ret
        exact ⟨by rw [HV.out]; rfl, HBE.out⟩
      have hkl : j + 1 < l.length := by rw [HLN.out]; omega
      have c0 := ((HC.out (j + 1) hkl).below hbe hbb).c1
      rw [Nat.mul_one] at c0
      have hbz : b < wr.heap.size := by have := hbe.size; omega
      have hb1z : b1 < wr.heap.size := by have := hbe.size; omega
      obtain ⟨x, hx', hxn⟩ := inN_nat (HIN.out l[j + 1] (List.getElem_mem hkl))
      rw [hx'] at c0
      have hxl : x < p.ms.length := by rw [HN.out]; exact hxn
      obtain ⟨cx0, cx1⟩ := ((HC1.out x hxl).below hbe hbb1).c2
      have HLK := Lib.hid (show l.getD (j + 1) 0 = (x : Int) by rw [getD_at l (j + 1) hkl, hx'])
      have HKX := Lib.hid (kdA_nat hxl)
      have HNO := Lib.hid (fun (h : okK p l (j + 1) = false) => pathB_no HR.out (fun h' => by have := h'.2.2.2.2 (j + 1) hkl; rw [h] at this; cases this))
      clear hbe hx hx'
      generalize p.ms[x] = mx at *
      clear hxl
      obtain ⟨sx, tx⟩ := mx
      dsimp only at cx0 cx1 HKX
      have HK42 := Lib.hid (fun (X : Later wr) => isConveyor42 sx X.w)
      obtain ⟨qc, hqc⟩ : ∃ q, cvB sx = q := ⟨_, rfl⟩
      rw [hqc] at HK42
      have HQC := Lib.hid hqc
      clear hqc
      have hjl : j < l.length := by rw [HLN.out]; omega
      have cj := ((HC.out j hjl).below HBE.out hbb).c1
      rw [Nat.mul_one] at cj
      obtain ⟨y, hy, hyn⟩ := inN_nat (HIN.out l[j] (List.getElem_mem hjl))
      rw [hy] at cj
      have HLJ := Lib.hid (show l.getD j 0 = (y : Int) by rw [getD_at l j hjl, hy])
      clear hy hjl
      have HK140 := Lib.hid (fun (X : Later wr) => hasArc140 (.slice (some ⟨b1, off1, none⟩) n n1) _ p.arcs ⟨y, x⟩ X.w ⟨_, _, _, rfl⟩ (HAR.out.later (HBE.out.trans (X.h.mono HBE.out.size))))
      obtain ⟨qa, hqa⟩ : ∃ q, decide ((⟨(y : Int), (x : Int)⟩ : Ar) ∈ p.arcs) = q := ⟨_, rfl⟩
      rw [hqa] at HK140
      have HOKE := Lib.hid (show okK p l (j + 1) = ((decide (j + 1 = e) || qc) && qa) by
        unfold okK
        rw [HLN.out, HLK.out, HKX.out, HQC.out, show j + 1 - 1 = j by omega, HLJ.out, hqa, decide_eq_false (show ¬ j + 1 = 0 by omega), Bool.false_or]
        congr 2
        exact decide_eq_decide.2 (by omega))
      clear hqa
      have g2 : decide ((j : Int) + 1 < (e : Int) + 1) = true := decide_eq_true (by omega)
      have g2' : decide ((j : Int) < (e : Int)) = true := decide_eq_true (by omega)
      by_cases hje : j + 1 = e
      · rw [decide_eq_true hje, Bool.true_or, Bool.true_and] at HOKE
        have g3 : decide ((j : Int) + 1 < (e : Int)) = false := decide_eq_false (by omega)
        have g4 : decide (j + 1 < e) = false := decide_eq_false (by omega)
        have HJE := Lib.hid hje
        clear hje
        cases qa with
        | false =>
          have HV := Lib.hid (HNO.out HOKE.out)
          go_wp2_with fail
          refine wp_region_later (by kernel_rfl) (by kernel_rfl) ?_
          repeat go_big_quiet_step ((first | (go_at_call 50; exact Calls.later (HK140.out _)) | (go_at_call 42; exact Calls.later_same (HK42.out _))))
          refine wpQuiet_nil ?_
          rintro w3 ⟨⟨_, hb3⟩, rfl⟩
          go_wp2_with fail
          go_ret
          exact ⟨by rw [HV.out]; rfl, HBE.out.trans (hb3.mono HBE.out.size)⟩
        | true =>
          go_wp2_with fail
          refine wp_region_later (by kernel_rfl) (by kernel_rfl) ?_
          repeat go_big_quiet_step ((first | (go_at_call 50; exact Calls.later (HK140.out _)) | (go_at_call 42; exact Calls.later_same (HK42.out _))))
          refine wpQuiet_nil ?_
          rintro w3 ⟨⟨_, hb3⟩, rfl⟩
          go_wp2_with fail
          go_roundw
          case rel => exact ⟨j + 1 + 1, by omega, by omega, by go_num, HBE.out.trans (hb3.mono HBE.out.size), HXE.out.later hb3, fun i hi => (Nat.lt_succ_iff_lt_or_eq.1 hi).elim (HOK.out i) (fun h => by rw [h]; exact HOKE.out)⟩
          case measure => simp [intOf]; omega
      · rw [decide_eq_false hje, Bool.false_or] at HOKE
        have g3 : decide ((j : Int) + 1 < (e : Int)) = true := decide_eq_true (by omega)
        have g4 : decide (j + 1 < e) = true := decide_eq_true (by omega)
        have HJE := Lib.hid hje
        clear hje
        cases qa with
        | false =>
          rw [Bool.and_false] at HOKE
          have HV := Lib.hid (HNO.out HOKE.out)
          go_wp2_with fail
          refine wp_region_later (by kernel_rfl) (by kernel_rfl) ?_
          repeat go_big_quiet_step ((first | (go_at_call 50; exact Calls.later (HK140.out _)) | (go_at_call 42; exact Calls.later_same (HK42.out _))))
          refine wpQuiet_nil ?_
          rintro w3 ⟨⟨_, hb3⟩, rfl⟩
          go_wp2_with fail
          go_ret
          exact ⟨by rw [HV.out]; rfl, HBE.out.trans (hb3.mono HBE.out.size)⟩
        | true =>
        cases qc with
        | false =>
          have HV := Lib.hid (HNO.out HOKE.out)
          go_wp2_with fail
          refine wp_region_later (by kernel_rfl) (by kernel_rfl) ?_
          repeat go_big_quiet_step ((first | (go_at_call 50; exact Calls.later (HK140.out _)) | (go_at_call 42; exact Calls.later_same (HK42.out _))))
          refine wpQuiet_nil ?_
          rintro w3 ⟨⟨_, hb3⟩, rfl⟩
          go_wp2_with fail
          go_ret
          exact ⟨by rw [HV.out]; rfl, HBE.out.trans (hb3.mono HBE.out.size)⟩
        | true =>
          go_wp2_with fail
          refine wp_region_later (by kernel_rfl) (by kernel_rfl) ?_
          repeat go_big_quiet_step ((first | (go_at_call 50; exact Calls.later (HK140.out _)) | (go_at_call 42; exact Calls.later_same (HK42.out _))))
          refine wpQuiet_nil ?_
          rintro w3 ⟨⟨_, hb3⟩, rfl⟩
          go_wp2_with fail
          go_roundw
          case rel => exact ⟨j + 1 + 1, by omega, by omega, by go_num, HBE.out.trans (hb3.mono HBE.out.size), HXE.out.later hb3, fun i hi => (Nat.lt_succ_iff_lt_or_eq.1 hi).elim (HOK.out i) (fun h => by rw [h]; exact HOKE.out)⟩
          case measure => simp [intOf]; omega
end Go.Proofs.YtpafjhjpchdcdaaGreatDoor
/- Walks: the error of a path; IsPath and Time. -/
namespace Go.Proofs.YtpafjhjpchdcdaaGreatDoor
open Go Go.Proofs Go.RowKit Go.Shelf
theorem unk_in {n : Nat} {l : List Int} (h : l.any (fun x => !inN n x) = false) : ∀ x ∈ l, inN n x = true := fun x hx => by
  have := List.any_eq_false.1 h x hx; simpa using this
theorem pathE_unk {p : Pl} {l : List Int} (h : l.any (fun x => !inN p.ms.length x) = true) : pathE p l = 10 := by
  unfold pathE unkE; rw [if_pos h]; rfl
theorem unkE_t {n : Nat} {l : List Int} (h : l.any (fun x => !inN n x) = true) : unkE n l = 10 := by unfold unkE; rw [if_pos h]
theorem unkE_f {n : Nat} {l : List Int} (h : l.any (fun x => !inN n x) = false) : unkE n l = 0 := by unfold unkE; rw [if_neg (by rw [h]; simp)]
theorem pathE_in {p : Pl} {l : List Int} (h : l.any (fun x => !inN p.ms.length x) = false) : pathE p l = if pathB p l then 0 else 1 := by
  unfold pathE; rw [unkE_f h, if_neg (by simp)]
structure OkP (p : Pl) : Prop where
  pos : 0 < p.ms.length
  le : p.ms.length ≤ 64
  kinds : ∀ m ∈ p.ms, 0 ≤ kn m.kind
  times : ∀ m ∈ p.ms, 0 ≤ m.time ∧ m.time ≤ 100000
  ale : p.arcs.length ≤ 256
  ins : ∀ a ∈ p.arcs, inN p.ms.length a.fr = true ∧ inN p.ms.length a.to = true ∧ a.fr ≠ a.to ∧ kAt p a.to ≠ 0 ∧ kAt p a.fr ≠ 2
  nodup : p.arcs.Nodup
theorem ckMsL_ok : ∀ {l : List Mc}, ckMsL l = 0 → ∀ m ∈ l, 0 ≤ kn m.kind ∧ 0 ≤ m.time ∧ m.time ≤ 100000
  | [], _ => fun m hm => by cases hm
  | m :: r, h => by
    unfold ckMsL at h
    split at h
    · cases h
    · split at h
      · cases h
      · intro x hx
        rcases List.mem_cons.1 hx with rfl | hx
        · omega
        · exact ckMsL_ok h x hx
theorem ckArL_ok {p : Pl} : ∀ {r : List Ar} {k : Nat}, ckArL p k r = 0 → ∀ i (h : i < r.length), ckAr p (k + i) r[i] = 0
  | [], _, _ => fun i hi => absurd hi (by simp)
  | a :: r, k, h => by
    unfold ckArL at h
    split at h
    · rename_i h1; exact absurd h h1
    · rename_i h1
      intro i hi
      cases i with
      | zero => simpa using h1
      | succ i =>
        have := ckArL_ok h i (by simpa using hi)
        simpa [Nat.add_assoc, Nat.add_comm 1 i] using this
theorem ckPlant_ok {p : Pl} (h : ckPlant p = 0) : OkP p := by
  unfold ckPlant at h
  split at h
  · cases h
  · split at h
    · cases h
    · split at h
      · rename_i h1; exact absurd h h1
      · rename_i h1
        split at h
        · cases h
        · have hm := ckMsL_ok (Decidable.not_not.1 h1)
          have ha := ckArL_ok h
          have hat : ∀ i (hi : i < p.arcs.length), (inN p.ms.length p.arcs[i].fr = true ∧ inN p.ms.length p.arcs[i].to = true ∧ p.arcs[i].fr ≠ p.arcs[i].to ∧ kAt p p.arcs[i].to ≠ 0 ∧ kAt p p.arcs[i].fr ≠ 2) ∧ p.arcs[i] ∉ p.arcs.take i := fun i hi => by
            have := ha i hi
            unfold ckAr at this
            rw [Nat.zero_add] at this
            split at this
            · cases this
            · rename_i g1
              split at this
              · cases this
              · rename_i g2
                split at this
                · cases this
                · rename_i g3
                  refine ⟨⟨?_, ?_, fun e => g2 (.inl e), fun e => g2 (.inr (.inl e)), fun e => g2 (.inr (.inr e))⟩, g3⟩
                  · cases hh : inN p.ms.length p.arcs[i].fr with
                    | true => rfl
                    | false => exact absurd (.inl hh) g1
                  · cases hh : inN p.ms.length p.arcs[i].to with
                    | true => rfl
                    | false => exact absurd (.inr hh) g1
          refine ⟨by omega, by omega, fun m hx => (hm m hx).1, fun m hx => (hm m hx).2, by omega, fun a hx => ?_, ?_⟩
          · obtain ⟨i, hi, rfl⟩ := List.mem_iff_getElem.1 hx
            exact (hat i hi).1
          · rw [List.nodup_iff_pairwise_ne, List.pairwise_iff_getElem]
            intro i j hi hj hij e
            exact (hat j hj).2 (by rw [← e]; exact List.mem_take_iff_getElem.2 ⟨i, by omega, rfl⟩)
theorem PlR.agg {w : World} {v1 v2 : Value} {p : Pl} (h : PlR w w.heap.size v1 v2 p) : ∃ a1 c1 a2 c2, v1 = .slice a1 p.ms.length c1 ∧ v2 = .slice a2 p.arcs.length c2 := by
  obtain ⟨⟨a1, n1, h1, _⟩, ⟨a2, n2, h2, _⟩⟩ := h
  exact ⟨a1, n1, a2, n2, h1, h2⟩
set_option maxRecDepth 100000 in
set_option maxHeartbeats 1000000 in
theorem checkPath104 (w : World) (v1 v2 u : Value) (p : Pl) (l : List Int) (hw : WdR w) (hv : PlR w w.heap.size v1 v2 p) (hu : Sl encI 1 w w.heap.size u l) : Calls Tryz.prog 61 #[.agg #[v1, v2], u] w (Ret (.int .i64 (pathE p l)) w) := by
  obtain ⟨a1, n1, a2, n2, rfl, rfl⟩ := hv.agg
  have HU := Lib.hid (fun (w1 : World) (hb : Below w.heap.size w w1) => unknown79 a1 p.ms.length n1 (.slice a2 p.arcs.length n2) u l w1 (hu.later hb))
  have HI := Lib.hid (fun (w1 : World) (hb : Below w.heap.size w w1) hin => isPath103 w1 _ _ u p l (hw.later hb) (hv.later hb) (hu.later hb) hin)
  clear hw hv hu
  have HB := Lib.hid ((Below.refl w.heap.size w).alloc (Nat.le_refl _) (.cells #[.slice a1 p.ms.length n1, .slice a2 p.arcs.length n2] 25))
  have HX := Lib.hid (Box.new w #[.slice a1 p.ms.length n1, .slice a2 p.arcs.length n2] 25)
  obtain ⟨q, hq⟩ : ∃ q, l.any (fun x => !inN p.ms.length x) = q := ⟨_, rfl⟩
  go_enter Tryz.func61, Tryz.ntmps61
  cases q with
  | true =>
    have HV := Lib.hid (pathE_unk hq)
    rw [unkE_t hq] at HU
    clear HI hq
    go_wp2_with fail
    refine (HU.out _ HB.out).mono ?_
    rintro e w2 ⟨rfl, hb2⟩
    go_wp2_with fail
    go_ret
    exact ⟨by rw [HV.out]; rfl, HB.out.trans (hb2.mono HB.out.size)⟩
  | false =>
    have HV := Lib.hid (pathE_in hq)
    rw [unkE_f hq] at HU
    have HI2 := Lib.hid (fun (w1 : World) (hb : Below w.heap.size w w1) => HI.out w1 hb (unk_in hq))
    obtain ⟨r, hr⟩ : ∃ r, pathB p l = r := ⟨_, rfl⟩
    rw [hr] at HI2 HV
    clear HI hq hr
    go_wp2_with fail
    refine (HU.out _ HB.out).mono ?_
    rintro e w2 ⟨rfl, hb2⟩
    have HB2 := Lib.hid (HB.out.trans (hb2.mono HB.out.size))
    obtain ⟨x0, x1, xf, xz⟩ := (HX.out.later hb2).v2
    clear hb2
    go_wp2_with fail
    refine (HI2.out _ HB2.out).mono ?_
    rintro e w3 ⟨rfl, hb3⟩
    cases r
    all_goals
      go_wp2_with fail
      go_ret
      exact ⟨by rw [HV.out]; rfl, HB2.out.trans (hb3.mono HB2.out.size)⟩
set_option maxRecDepth 100000 in
set_option maxHeartbeats 1000000 in
theorem checkPath22 (w : World) (v1 v2 u : Value) (p : Pl) (l : List Int) (hv : PlR w w.heap.size v1 v2 p) (hu : Sl encI 1 w w.heap.size u l) : Calls Tryz.prog 7 #[.agg #[v1, v2], u] w (Ret (.int .i64 (pathE p l)) w) := by
  obtain ⟨a1, n1, a2, n2, rfl, rfl⟩ := hv.agg
  have HU := Lib.hid (fun (w1 : World) (hb : Below w.heap.size w w1) => unknown88 a1 p.ms.length n1 (.slice a2 p.arcs.length n2) u l w1 (hu.later hb))
  have HI := Lib.hid (fun (w1 : World) (hb : Below w.heap.size w w1) hin => isPath89 w1 _ _ u p l (hv.later hb) (hu.later hb) hin)
  clear hv hu
  have HB := Lib.hid ((Below.refl w.heap.size w).alloc (Nat.le_refl _) (.cells #[.slice a1 p.ms.length n1, .slice a2 p.arcs.length n2] 25))
  have HX := Lib.hid (Box.new w #[.slice a1 p.ms.length n1, .slice a2 p.arcs.length n2] 25)
  obtain ⟨q, hq⟩ : ∃ q, l.any (fun x => !inN p.ms.length x) = q := ⟨_, rfl⟩
  go_enter Tryz.func7, Tryz.ntmps7
  cases q with
  | true =>
    have HV := Lib.hid (pathE_unk hq)
    rw [unkE_t hq] at HU
    clear HI hq
    go_wp2_with fail
    refine (HU.out _ HB.out).mono ?_
    rintro e w2 ⟨rfl, hb2⟩
    go_wp2_with fail
    go_ret
    exact ⟨by rw [HV.out]; rfl, HB.out.trans (hb2.mono HB.out.size)⟩
  | false =>
    have HV := Lib.hid (pathE_in hq)
    rw [unkE_f hq] at HU
    have HI2 := Lib.hid (fun (w1 : World) (hb : Below w.heap.size w w1) => HI.out w1 hb (unk_in hq))
    obtain ⟨r, hr⟩ : ∃ r, pathB p l = r := ⟨_, rfl⟩
    rw [hr] at HI2 HV
    clear HI hq hr
    go_wp2_with fail
    refine (HU.out _ HB.out).mono ?_
    rintro e w2 ⟨rfl, hb2⟩
    have HB2 := Lib.hid (HB.out.trans (hb2.mono HB.out.size))
    obtain ⟨x0, x1, xf, xz⟩ := (HX.out.later hb2).v2
    clear hb2
    go_wp2_with fail
    refine (HI2.out _ HB2.out).mono ?_
    rintro e w3 ⟨rfl, hb3⟩
    cases r
    all_goals
      go_wp2_with fail
      go_ret
      exact ⟨by rw [HV.out]; rfl, HB2.out.trans (hb3.mono HB2.out.size)⟩
end Go.Proofs.YtpafjhjpchdcdaaGreatDoor
/- Walks: names; two lists of numbers. -/
namespace Go.Proofs.YtpafjhjpchdcdaaGreatDoor
open Go Go.Proofs Go.RowKit
def okC (n : Int) : Bool := (decide (97 ≤ n) && decide (n ≤ 122)) || (decide (65 ≤ n) && decide (n ≤ 90)) || (decide (48 ≤ n) && decide (n ≤ 57)) || n == 45 || n == 95 || n == 46
def okB (c : UInt8) : Bool := okC (c.toNat : Int)
def isName (s : ByteArray) : Bool := decide (1 ≤ s.size) && decide (s.size ≤ 24) && s.data.toList.all okB
theorem name_all_drop (s : ByteArray) (k : Nat) (h : k < s.size) : (s.data.toList.drop k).all okB = (okB s[k] && (s.data.toList.drop (k + 1)).all okB) := by
  rw [List.drop_eq_getElem_cons (by simpa using h)]
  rfl
theorem below_iter (w : World) (s : ByteArray) (p : Nat) : Below w.heap.size w (w.iter s p) := (Below.refl _ _).alloc (Nat.le_refl _) _
set_option maxHeartbeats 1000000 in
theorem isName141 (s : ByteArray) (w : World) (hs : s.size ≤ 9223372036854775807) : Calls Tryz.prog 62 #[.string s] w (Ret (.bool (isName s)) w) := by
  obtain ⟨R, hR⟩ : ∃ R, isName s = R := ⟨_, rfl⟩
  rw [hR]
  have HR := Lib.hid hR
  clear hR
  go_enter Tryz.func62, Tryz.ntmps62
  go_wp2_with fail
  go_loopw [4] (fun _ wr => ∃ k : Nat, k ≤ s.size ∧ wr = w.iter s k ∧ s.data.toList.all okB = (s.data.toList.drop k).all okB) (fun _ wr => s.size - wr.iterPos w.heap.size)
  case atStart => exact ⟨0, by omega, rfl, rfl⟩
  case round =>
    obtain ⟨k, hk, rfl, hrel⟩ := hrel
    have HL := Lib.hid hrel
    clear hrel
    by_cases hlt : k < s.size
    · have hd := Lib.hid (name_all_drop s k hlt)
      by_cases hok : okB s[k] = true
      · have HN : Hid (s.data.toList.all okB = (s.data.toList.drop (k + 1)).all okB) := by have h := HL.out; rw [hd.out, hok, Bool.true_and] at h; exact h
        have hok' : (97 ≤ (s[k].toNat : Int) ∧ (s[k].toNat : Int) ≤ 122) ∨ (65 ≤ (s[k].toNat : Int) ∧ (s[k].toNat : Int) ≤ 90) ∨ (48 ≤ (s[k].toNat : Int) ∧ (s[k].toNat : Int) ≤ 57) ∨ (s[k].toNat : Int) = 45 ∨ (s[k].toNat : Int) = 95 ∨ (s[k].toNat : Int) = 46 := by
          simp only [okB, okC, Bool.or_eq_true, Bool.and_eq_true, decide_eq_true_eq, beq_iff_eq] at hok; omega
        clear hok
        have hnx := fun ty => run_next_ascii (P := Tryz.prog) w s k ty hlt (by omega)
        generalize (s[k].toNat : Int) = c at *
        rcases hok' with ⟨h2, h3⟩ | ⟨h2, h3⟩ | ⟨h2, h3⟩ | h2 | h2 | h2
        all_goals go_wp2_with fail
        all_goals go_roundw
        all_goals first | exact ⟨k + 1, by omega, rfl, HN.out⟩ | (simp only [World.iterPos_iter]; omega)
      · have HF : Hid (s.data.toList.all okB = false) := by have h := HL.out; rw [hd.out, (Bool.not_eq_true _).mp hok, Bool.false_and] at h; exact h
        have hbad : ∃ (c : Int) (p : Nat), (123 ≤ c ∨ (91 ≤ c ∧ c ≤ 94) ∨ (58 ≤ c ∧ c ≤ 64) ∨ c = 47 ∨ c = 96 ∨ c ≤ 44) ∧ ∀ ty, (Instr.next (.pointer (some ⟨w.heap.size, 0, none⟩)) true ty).run Tryz.prog (w.iter s k) = .ok (.tuple #[.bool true, .int .i64 k, .int .i32 c]) (w.iter s p) := by
          by_cases ha : s[k].toNat < 128
          · refine ⟨(s[k].toNat : Int), k + 1, ?_, fun ty => run_next_ascii (P := Tryz.prog) w s k ty hlt ha⟩
            simp only [okB, okC, Bool.or_eq_true, Bool.and_eq_true, decide_eq_true_eq, beq_iff_eq] at hok
            omega
          · exact ⟨_, _, .inl (by have := (decode_high s k hlt (by omega)).1; omega), fun ty => run_next_any (P := Tryz.prog) w s k ty hlt⟩
        clear hok
        obtain ⟨c, p, hc, hnx⟩ := hbad
        have HRF : Hid (R = false) := by have h := HR.out; unfold isName at h; rw [HF.out, Bool.and_false] at h; exact h.symm
        rcases hc with h2 | ⟨h2, h3⟩ | ⟨h2, h3⟩ | h2 | h2 | h2
        all_goals go_wp2_with fail
        all_goals first | (go_ret; exact Ret.mk (congrArg Value.bool HRF.out.symm) (below_iter _ _ _)) | (exfalso; simp only [Bool.not_eq_false', decide_eq_true_eq, bne_eq_false_iff_eq] at *; omega)
    · obtain rfl : s.size = k := by omega
      have HA : Hid (s.data.toList.all okB = true) := by have h := HL.out; rw [List.drop_of_length_le (by simp)] at h; exact h
      have hnx := fun ty => run_next_end (P := Tryz.prog) w s s.size ty hlt
      go_wp2_with fail
      all_goals
        go_ret
        rw [← HR.out]
        refine Ret.mk (congrArg Value.bool ?_) (below_iter _ _ _)
        unfold isName
        rw [HA.out, Bool.and_true, Bool.eq_iff_iff]
        simp only [Bool.and_eq_true, decide_eq_true_eq, Bool.false_eq_true, false_iff]
        omega
set_option maxRecDepth 100000 in
set_option maxHeartbeats 1000000 in
theorem isName91 (s : ByteArray) (w : World) (hs : s.size ≤ 9223372036854775807) : Calls Tryz.prog 31 #[.string s] w (Ret (.bool (isName s)) w) := by
  have H := Lib.hid (isName141 s w hs)
  obtain ⟨R, hR⟩ : ∃ R, isName s = R := ⟨_, rfl⟩
  rw [hR] at H ⊢
  clear hR hs
  go_enter Tryz.func31, Tryz.ntmps31
  go_wp2_with (go_at_call 62; refine H.out.mono ?_; rintro e w' ⟨rfl, hb⟩)
  go_ret
  exact ⟨rfl, hb⟩
end Go.Proofs.YtpafjhjpchdcdaaGreatDoor
