/- Lemmas on the way to the laws (part 7): Ai Aj Ak -/
import Derived.Test.YtahpdkkpnkhnhaaGreatDoorLib06
set_option linter.unusedVariables false
set_option linter.unusedSimpArgs false

/- Walks: ref.Time. -/
namespace Go.Proofs.YtahpdkkpnkhnhaaGreatDoor
open Go Go.Proofs Go.RowKit Go.Shelf

set_option maxRecDepth 100000 in
set_option maxHeartbeats 1000000 in
theorem time23 (w : World) (v1 v2 u : Value) (p : Pl) (l : List Int) (hv : PlR w w.heap.size v1 v2 p) (hu : Sl encI 1 w w.heap.size u l) (hin : ∀ x ∈ l, inN p.ms.length x = true) (ht : ∀ m ∈ p.ms, 0 ≤ m.time ∧ m.time ≤ 100000) : Calls Tryz.prog 23 #[.agg #[v1, v2], u] w (Ret (.int .i64 (tSum p l)) w) := by
  obtain ⟨⟨a1, n1, rfl, hl1, hA1⟩, ⟨a2, n2, rfl, hl2, hA2⟩⟩ := hv
  obtain ⟨a, c, rfl, hlen, hA⟩ := hu
  have HA1 := Lib.hid hA1
  have HA := Lib.hid hA
  have HIN := Lib.hid hin
  have HT := Lib.hid ht
  clear hA1 hA2 hA hl2 hin ht
  obtain ⟨h11, h12⟩ := hl1
  obtain ⟨hl, hlc⟩ := hlen
  obtain ⟨R, hR⟩ : ∃ R, tSum p l = R := ⟨_, rfl⟩
  rw [hR]
  have HR := Lib.hid hR
  clear hR
  have HB := Lib.hid ((Below.refl w.heap.size w).alloc (Nat.le_refl _) (.cells #[.slice a1 p.ms.length n1, .slice a2 p.arcs.length n2] 25))
  have HX := Lib.hid (Box.new w #[.slice a1 p.ms.length n1, .slice a2 p.arcs.length n2] 25)
  obtain ⟨n, hn⟩ : ∃ n, p.ms.length = n := ⟨_, rfl⟩
  obtain ⟨m, hm⟩ : ∃ m, p.arcs.length = m := ⟨_, rfl⟩
  rw [hn] at HB HX h11 h12 HIN ⊢
  rw [hm] at HB HX ⊢
  have HN := Lib.hid hn
  clear hn hm
  go_enter Tryz.func23, Tryz.ntmps23
  go_wp2_with fail
  go_loopw [6, 5] (fun j o wr => ∃ k : Nat, k ≤ l.length ∧ j = .int .i64 k ∧ Below w.heap.size w wr ∧ Box wr w.heap.size 25 [.slice a1 n n1, .slice a2 m n2] ∧ ∃ s : Int, o = .int .i64 s ∧ 0 ≤ s ∧ s ≤ 100000 * k ∧ s + tSum p (l.drop k) = R) (fun j _ _ => l.length - (intOf j).toNat)
  case atStart => exact ⟨0, by omega, rfl, HB.out, HX.out, 0, rfl, by omega, by omega, by rw [List.drop_zero, Int.zero_add]; exact HR.out⟩
  case round =>
    clear HB HX
    obtain ⟨k, hk, rfl, hbe, hx, s, rfl, hs0, hs1, hrel⟩ := hrel
    have HL := Lib.hid hrel
    have HBE := Lib.hid hbe
    have HXE := Lib.hid hx
    clear hrel
    obtain ⟨x0, x1, xf, xz⟩ := hx.v2
    by_cases hlt : k < l.length
    · obtain ⟨b, off, rfl, hbb, hcells⟩ := HA.out (by omega)
      have c0 := ((hcells k hlt).below hbe hbb).c1
      rw [Nat.mul_one] at c0
      have hbz : b < wr.heap.size := by have := hbe.size; omega
      have hd := Lib.hid (tSum_drop p l k hlt)
      have hi := HIN.out l[k] (List.getElem_mem hlt)
      clear hcells HA
      generalize l[k] = y at *
      obtain ⟨x, rfl, hxn⟩ := inN_nat hi
      clear hi
      have hxl : x < p.ms.length := by rw [HN.out]; exact hxn
      obtain ⟨b1, off1, rfl, hbb1, hcells1⟩ := HA1.out (by omega)
      obtain ⟨c1, c2⟩ := ((hcells1 x hxl).below hbe hbb1).c2
      have hb1z : b1 < wr.heap.size := by have := hbe.size; omega
      obtain ⟨ht0, ht1⟩ := HT.out _ (List.getElem_mem hxl)
      have HTX := Lib.hid (tAt_nat hxl)
      clear hcells1 hbe hx
      generalize p.ms[x] = mc at *
      clear hxl
      obtain ⟨st, t⟩ := mc
      dsimp only at c1 c2 ht0 ht1
      have HV := Lib.hid (show s + t + tSum p (l.drop (k + 1)) = R by have h := HL.out; rw [hd.out, HTX.out] at h; dsimp only at h; omega)
      clear HL hd HTX
      go_wp2_with fail
      go_quiet (fail)
      go_wp2_with fail
      go_roundw
      case rel => exact ⟨k + 1, by omega, by go_num, below_drewN HBE.out _, HXE.out.later (below_drewN (Below.refl _ _) _), s + t, by first | rfl | go_num, by omega, by omega, HV.out⟩
      case measure => simp [intOf]; omega
    · obtain rfl : l.length = k := by omega
      have HV := Lib.hid (show R = s by rw [← HL.out, List.drop_length]; unfold tSum; omega)
      go_wp2_with fail
      go_ret
      exact ⟨by rw [HV.out]; rfl, HBE.out⟩
end Go.Proofs.YtahpdkkpnkhnhaaGreatDoor

/- Plain: what a path is. -/
namespace Go.Proofs.YtahpdkkpnkhnhaaGreatDoor
open Go Go.Proofs Go.RowKit Go.Shelf

/-- The kind, as a text, of machine x. -/
def kdA (p : Pl) (x : Int) : ByteArray := (p.ms.getD x.toNat ⟨⟨#[]⟩, 0⟩).kind
theorem kdA_nat {p : Pl} {x : Nat} (h : x < p.ms.length) : kdA p x = p.ms[x].kind := by
  unfold kdA
  rw [show ((x : Int)).toNat = x by omega, List.getD_eq_getElem?_getD, List.getElem?_eq_getElem h]; rfl
/-- What is asked of the machine at place k of a path, and of the arc that leads to it. -/
def okK (p : Pl) (l : List Int) (k : Nat) : Bool :=
  decide (k = 0) || ((decide (k + 1 = l.length) || cvB (kdA p (l.getD k 0))) && decide ((⟨l.getD (k - 1) 0, l.getD k 0⟩ : Ar) ∈ p.arcs))
def pathB (p : Pl) (l : List Int) : Bool := decide (2 ≤ l.length) && (bgB (kdA p (l.getD 0 0)) && (enB (kdA p (l.getD (l.length - 1) 0)) && (!dupB l && (List.range l.length).all (okK p l))))
theorem pathB_iff (p : Pl) (l : List Int) : pathB p l = true ↔ 2 ≤ l.length ∧ bgB (kdA p (l.getD 0 0)) = true ∧ enB (kdA p (l.getD (l.length - 1) 0)) = true ∧ l.Nodup ∧ ∀ k, k < l.length → okK p l k = true := by
  unfold pathB
  simp only [Bool.and_eq_true, decide_eq_true_eq, Bool.not_eq_true', nodup_dup, List.all_eq_true, List.mem_range]
theorem pathB_no {p : Pl} {l : List Int} {R : Bool} (h : pathB p l = R) (hn : ¬ (2 ≤ l.length ∧ bgB (kdA p (l.getD 0 0)) = true ∧ enB (kdA p (l.getD (l.length - 1) 0)) = true ∧ l.Nodup ∧ ∀ k, k < l.length → okK p l k = true)) : R = false := by
  cases R with
  | false => rfl
  | true => exact absurd ((pathB_iff p l).1 h) hn
theorem nodup_take_of {l : List Int} {k : Nat} (h : l.Nodup) (hk : k < l.length) : (l.take k).contains l[k] = false :=
  ((nodup_take l k hk).1 (h.sublist (List.take_sublist _ _))).2
/-- The error of a path. -/
def pathE (p : Pl) (l : List Int) : Int := if unkE p.ms.length l ≠ 0 then unkE p.ms.length l else if pathB p l then 0 else 1

set_option maxRecDepth 100000 in
set_option maxHeartbeats 1000000 in
theorem isPath103 (w : World) (v1 v2 u : Value) (p : Pl) (l : List Int) (hw : WdR w) (hv : PlR w w.heap.size v1 v2 p) (hu : Sl encI 1 w w.heap.size u l) (hin : ∀ x ∈ l, inN p.ms.length x = true) : Calls Tryz.prog 103 #[.agg #[v1, v2], u] w (Ret (.bool (pathB p l)) w) := by
  have HWD := Lib.hid (fun (w1 : World) (hb : Below w.heap.size w w1) => hw.later hb)
  have HU := Lib.hid hu
  have HAR := Lib.hid hv.arcs
  obtain ⟨⟨a1, n1, rfl, hl1, hA1⟩, ⟨a2, n2, rfl, hl2, hA2⟩⟩ := hv
  obtain ⟨a, c, rfl, hlen, hA⟩ := hu
  have HA1 := Lib.hid hA1
  have HA := Lib.hid hA
  have HIN := Lib.hid hin
  clear hA1 hA2 hA hl2 hin hw
  obtain ⟨h11, h12⟩ := hl1
  obtain ⟨hl, hlc⟩ := hlen
  obtain ⟨R, hR⟩ : ∃ R, pathB p l = R := ⟨_, rfl⟩
  rw [hR]
  have HR := Lib.hid hR
  clear hR
  have HB := Lib.hid ((Below.refl w.heap.size w).alloc (Nat.le_refl _) (.cells #[.slice a1 p.ms.length n1, .slice a2 p.arcs.length n2] 25))
  have HX := Lib.hid (Box.new w #[.slice a1 p.ms.length n1, .slice a2 p.arcs.length n2] 25)
  obtain ⟨n, hn⟩ : ∃ n, p.ms.length = n := ⟨_, rfl⟩
  obtain ⟨m, hm⟩ : ∃ m, p.arcs.length = m := ⟨_, rfl⟩
  obtain ⟨ln, hln⟩ : ∃ m, l.length = m := ⟨_, rfl⟩
  rw [hn] at HB HX h11 h12 HIN ⊢
  rw [hm] at HB HX HAR ⊢
  rw [hln] at hl hlc HU ⊢
  have HN := Lib.hid hn
  have HM := Lib.hid hm
  have HLN := Lib.hid hln
  clear hn hm hln
  go_enter Tryz.func103, Tryz.ntmps103
  by_cases h2 : ln < 2
  · have k0 : decide ((ln : Int) < 2) = true := decide_eq_true (by omega)
    have HV := Lib.hid (pathB_no HR.out (fun h => by have := h.1; rw [HLN.out] at this; omega))
    go_wp2_with fail
    go_quiet (fail)
    go_wp2_with fail
    go_ret
    exact ⟨by rw [HV.out]; rfl, below_drewN HB.out _⟩
  obtain ⟨e, rfl⟩ : ∃ e, ln = e + 1 := ⟨ln - 1, by omega⟩
  have k0 : decide (((e + 1 : Nat) : Int) < 2) = false := decide_eq_false (by omega)
  have k0' : decide ((e : Int) + 1 < 2) = false := decide_eq_false (by omega)
  have hpos : 0 < l.length := by rw [HLN.out]; omega
  have hel : e < l.length := by rw [HLN.out]; omega
  obtain ⟨b, off, rfl, hbb, hcells⟩ := HA.out hpos
  have HC := Lib.hid hcells
  have c0 := (hcells 0 hpos).c1
  rw [Nat.zero_mul, Nat.add_zero] at c0
  obtain ⟨x0, hx0, hx0n⟩ := inN_nat (HIN.out l[0] (List.getElem_mem hpos))
  obtain ⟨xe, hxe, hxen⟩ := inN_nat (HIN.out l[e] (List.getElem_mem hel))
  rw [hx0] at c0
  have HX0 := Lib.hid (show l.getD 0 0 = (x0 : Int) by rw [getD_at l 0 hpos, hx0])
  have HXE := Lib.hid (show l.getD (l.length - 1) 0 = (xe : Int) by rw [show l.length - 1 = e by rw [HLN.out]; rfl, getD_at l e hel, hxe])
  have hx0l : x0 < p.ms.length := by rw [HN.out]; exact hx0n
  have hxel : xe < p.ms.length := by rw [HN.out]; exact hxen
  obtain ⟨b1, off1, rfl, hbb1, hcells1⟩ := HA1.out (by omega)
  have HC1 := Lib.hid hcells1
  obtain ⟨ct0, ct1⟩ := (hcells1 x0 hx0l).c2
  have HK0 := Lib.hid (kdA_nat hx0l)
  have HKE := Lib.hid (kdA_nat hxel)
  have HCE := Lib.hid (hcells1 xe hxel)
  have HCL := Lib.hid (show At w b (off + e * 1) (encI xe) by rw [← hxe]; exact hcells e hel)
  clear hcells hcells1 hx0 hxe hpos
  generalize p.ms[x0] = m0 at *
  generalize p.ms[xe] = me at *
  clear hel hx0l hxel
  obtain ⟨s0, t0⟩ := m0
  obtain ⟨se, te⟩ := me
  dsimp only at ct0 ct1 HK0 HKE
  have HBG := Lib.hid (fun s t (w' : World) (hb : Below w.heap.size w w') => begins80 s t w' (HWD.out w' hb))
  have HEN := Lib.hid (fun s t (w' : World) (hb : Below w.heap.size w w') => ends81 s t w' (HWD.out w' hb))
  obtain ⟨q0, hq0⟩ : ∃ q, bgB s0 = q := ⟨_, rfl⟩
  obtain ⟨qe, hqe⟩ : ∃ q, enB se = q := ⟨_, rfl⟩
  have HQ0 := Lib.hid hq0
  have HQE := Lib.hid hqe
  clear hq0 hqe
  have HBX := Lib.hid (fun (X : Later (w.alloc (.cells #[.slice (some ⟨b1, off1, none⟩) n n1, .slice a2 m n2] 25))) => HB.out.trans (X.h.mono HB.out.size))
  have d0 := HCL.out.c1
  obtain ⟨de0, de1⟩ := HCE.out.c2
  rw [Nat.mul_one] at d0
  have hbz : b < w.heap.size := hbb
  have hb1z : b1 < w.heap.size := hbb1
  have HK80 := Lib.hid (fun (X : Later (w.alloc (.cells #[.slice (some ⟨b1, off1, none⟩) n n1, .slice a2 m n2] 25))) => HBG.out s0 t0 _ (HBX.out X))
  have HK81 := Lib.hid (fun (X : Later (w.alloc (.cells #[.slice (some ⟨b1, off1, none⟩) n n1, .slice a2 m n2] 25))) => HEN.out se te _ (HBX.out X))
  rw [HQ0.out] at HK80
  rw [HQE.out] at HK81
  cases q0 with
  | false =>
    have HV := Lib.hid (pathB_no HR.out (fun h => by have := h.2.1; rw [HX0.out, HK0.out, HQ0.out] at this; cases this))
    go_wp2_with fail
    refine wp_region_later (by kernel_rfl) (by kernel_rfl) ?_
    repeat go_big_quiet_step ((go_at_call 80; exact Calls.later (HK80.out _)))
    refine wpQuiet_nil ?_
    rintro w2 ⟨⟨_, hb2⟩, rfl⟩
    go_wp2_with fail
    go_ret
    exact ⟨by rw [HV.out]; rfl, HB.out.trans (hb2.mono HB.out.size)⟩
  | true =>
    cases qe with
    | false =>
      have HV := Lib.hid (pathB_no HR.out (fun h => by have := h.2.2.1; rw [HXE.out, HKE.out, HQE.out] at this; cases this))
      go_wp2_with fail
      refine wp_region_later (by kernel_rfl) (by kernel_rfl) ?_
      repeat go_big_quiet_step ((first | (go_at_call 80; exact Calls.later (HK80.out _)) | (go_at_call 81; exact Calls.later (HK81.out _))))
      refine wpQuiet_nil ?_
      rintro w2 ⟨⟨_, hb2⟩, rfl⟩
      go_wp2_with fail
      go_ret
      exact ⟨by rw [HV.out]; rfl, HB.out.trans (hb2.mono HB.out.size)⟩
    | true =>
      go_wp2_with fail
      refine wp_region_later (by kernel_rfl) (by kernel_rfl) ?_
      repeat go_big_quiet_step ((first | (go_at_call 80; exact Calls.later (HK80.out _)) | (go_at_call 81; exact Calls.later (HK81.out _))))
      refine wpQuiet_nil ?_
      rintro w2 ⟨⟨_, hb2⟩, rfl⟩
      go_wp2_with fail
      have HR2 := Lib.hid (fun (h : l.Nodup) (h' : ∀ k, k < l.length → okK p l k = true) => show R = true by rw [← HR.out]; exact (pathB_iff p l).2 ⟨by rw [HLN.out]; omega, by rw [HX0.out, HK0.out]; exact HQ0.out, by rw [HXE.out, HKE.out]; exact HQE.out, h, h'⟩)
      have HB2 := Lib.hid (HB.out.trans (hb2.mono HB.out.size))
      have HX2 := Lib.hid (HX.out.later hb2)
      clear HB HX HBX hb2 HK80 HK81 ct0 ct1 c0 d0 de0 de1 HK0 HKE HX0 HXE HQ0 HQE HCL HCE HBG HEN
      go_loopw [37] (fun i wr => ∃ k : Nat, k ≤ e + 1 ∧ i = .int .i64 k ∧ Below w.heap.size w wr ∧ Box wr w.heap.size 25 [.slice (some ⟨b1, off1, none⟩) n n1, .slice a2 m n2] ∧ (l.take k).Nodup ∧ ∀ j, j < k → okK p l j = true) (fun i _ => e + 1 - (intOf i).toNat)
      case atStart => exact ⟨0, by omega, rfl, HB2.out, HX2.out, by simp, fun j hj => absurd hj (by omega)⟩
      case round =>
        clear HB2 HX2
        obtain ⟨k, hk, rfl, hbe, hx, hnd, hok⟩ := hrel
        have HND := Lib.hid hnd
        have HOK := Lib.hid hok
        have HBE := Lib.hid hbe
        have HXE := Lib.hid hx
        obtain ⟨x0, x1, xf, xz⟩ := hx.v2
        clear hnd hok
        by_cases hlt : k < e + 1
        rotate_left
        · obtain rfl : k = e + 1 := by omega
          have HV := Lib.hid (HR2.out (by have := HND.out; rwa [List.take_of_length_le (by rw [HLN.out]; omega)] at this) (fun k hk => HOK.out k (by rw [HLN.out] at hk; exact hk)))
          have g0 : decide ((e : Int) + 1 < (e : Int) + 1) = false := decide_eq_false (by omega)
          clear hbe hx
          go_wp2_with fail
          go_ret
          exact ⟨by rw [HV.out]; rfl, HBE.out⟩
        have hkl : k < l.length := by rw [HLN.out]; exact hlt
        have hkc : (k : Int) ≤ c := by omega
        have c0 := ((HC.out k hkl).below hbe hbb).c1
        rw [Nat.mul_one] at c0
        have hbz : b < wr.heap.size := by have := hbe.size; omega
        have hb1z : b1 < wr.heap.size := by have := hbe.size; omega
        obtain ⟨x, hx', hxn⟩ := inN_nat (HIN.out l[k] (List.getElem_mem hkl))
        rw [hx'] at c0
        have hxl : x < p.ms.length := by rw [HN.out]; exact hxn
        obtain ⟨cx0, cx1⟩ := ((HC1.out x hxl).below hbe hbb1).c2
        have HLK := Lib.hid (show l.getD k 0 = (x : Int) by rw [getD_at l k hkl, hx'])
        have HKX := Lib.hid (kdA_nat hxl)
        have HNT := Lib.hid (nodup_take l k hkl)
        rw [hx'] at HNT
        have HT := Lib.hid (HU.out.take k (by omega))
        have HNO := Lib.hid (fun (h : okK p l k = false) => pathB_no HR.out (fun h' => by have := h'.2.2.2.2 k hkl; rw [h] at this; cases this))
        have HNO2 := Lib.hid (fun (h : (l.take k).contains (x : Int) = true) => pathB_no HR.out (fun h' => by have := nodup_take_of h'.2.2.2.1 hkl; rw [hx', h] at this; cases this))
        clear hbe hx hx'
        generalize p.ms[x] = mx at *
        clear hxl
        obtain ⟨sx, tx⟩ := mx
        dsimp only at cx0 cx1 HKX
        have HK82 := Lib.hid (fun (X : Later wr) => contains82 _ (l.take k) x X.w (HT.out.later (HBE.out.trans (X.h.mono HBE.out.size))))
        have HK84 := Lib.hid (fun (X : Later wr) => conveys84 sx tx X.w (HWD.out _ (HBE.out.trans (X.h.mono HBE.out.size))))
        obtain ⟨q, hq⟩ : ∃ q, (l.take k).contains (x : Int) = q := ⟨_, rfl⟩
        obtain ⟨qc, hqc⟩ : ∃ q, cvB sx = q := ⟨_, rfl⟩
        rw [hq] at HK82 HNT HNO2
        rw [hqc] at HK84
        have HQC := Lib.hid hqc
        clear hq hqc
        cases q with
        | true =>
          have HV := Lib.hid (HNO2.out rfl)
          go_wp2_with fail
          refine wp_region_later (by kernel_rfl) (by kernel_rfl) ?_
          repeat go_big_quiet_step ((go_at_call 82; exact Calls.later_same (HK82.out _)))
          refine wpQuiet_nil ?_
          rintro w3 ⟨⟨_, hb3⟩, rfl⟩
          go_wp2_with fail
          go_ret
          exact ⟨by rw [HV.out]; rfl, HBE.out.trans (hb3.mono HBE.out.size)⟩
        | false =>
        have HN2 := Lib.hid (HNT.out.2 ⟨HND.out, rfl⟩)
        cases k with
        | zero =>
          rw [Nat.add_zero] at c0
          have g0 : decide ((0 : Int) < (e : Int) + 1) = true := decide_eq_true (by omega)
          go_wp2_with fail
          refine wp_region_later (by kernel_rfl) (by kernel_rfl) ?_
          repeat go_big_quiet_step ((go_at_call 82; exact Calls.later_same (HK82.out _)))
          refine wpQuiet_nil ?_
          rintro w3 ⟨⟨_, hb3⟩, rfl⟩
          go_wp2_with fail
          go_roundw
          case rel => exact ⟨1, by omega, by go_num, HBE.out.trans (hb3.mono HBE.out.size), HXE.out.later hb3, HN2.out, fun j hj => by rw [show j = 0 from Nat.lt_one_iff.1 hj]; rfl⟩
          case measure => simp [intOf]
        | succ j =>
        have hjl : j < l.length := by rw [HLN.out]; omega
        have cj := ((HC.out j hjl).below HBE.out hbb).c1
        rw [Nat.mul_one] at cj
        obtain ⟨y, hy, hyn⟩ := inN_nat (HIN.out l[j] (List.getElem_mem hjl))
        rw [hy] at cj
        have HLJ := Lib.hid (show l.getD j 0 = (y : Int) by rw [getD_at l j hjl, hy])
        clear hy hjl
        have HK102 := Lib.hid (fun (X : Later wr) => contains102 _ p.arcs ⟨y, x⟩ X.w (HAR.out.later (HBE.out.trans (X.h.mono HBE.out.size))))
        obtain ⟨qa, hqa⟩ : ∃ q, decide ((⟨(y : Int), (x : Int)⟩ : Ar) ∈ p.arcs) = q := ⟨_, rfl⟩
        rw [hqa] at HK102
        have HOKE := Lib.hid (show okK p l (j + 1) = ((decide (j + 1 = e) || qc) && qa) by
          unfold okK
          rw [HLN.out, HLK.out, HKX.out, HQC.out, show j + 1 - 1 = j by omega, HLJ.out, hqa, decide_eq_false (show ¬ j + 1 = 0 by omega), Bool.false_or]
          congr 2
          exact decide_eq_decide.2 (by omega))
        clear hqa
        have g1 : decide ((0 : Int) < (j : Int) + 1) = true := decide_eq_true (by omega)
        have g2 : decide ((j : Int) + 1 < (e : Int) + 1) = true := decide_eq_true (by omega)
        have g2' : decide ((j : Int) < (e : Int)) = true := decide_eq_true (by omega)
        by_cases hje : j + 1 = e
        · rw [decide_eq_true hje, Bool.true_or, Bool.true_and] at HOKE
          have g3 : decide ((j : Int) + 1 < (e : Int)) = false := decide_eq_false (by omega)
          have g4 : decide (j + 1 < e) = false := decide_eq_false (by omega)
          have HJE := Lib.hid hje
          clear hje
          cases qa with
          | false =>
            have HV := Lib.hid (HNO.out HOKE.out)
            go_wp2_with fail
            refine wp_region_later (by kernel_rfl) (by kernel_rfl) ?_
            repeat go_big_quiet_step ((first | (go_at_call 82; exact Calls.later_same (HK82.out _)) | (go_at_call 102; exact Calls.later (HK102.out _))))
            refine wpQuiet_nil ?_
            rintro w3 ⟨⟨_, hb3⟩, rfl⟩
            go_wp2_with fail
            go_ret
            exact ⟨by rw [HV.out]; rfl, HBE.out.trans (hb3.mono HBE.out.size)⟩
          | true =>
            go_wp2_with fail
            refine wp_region_later (by kernel_rfl) (by kernel_rfl) ?_
            repeat go_big_quiet_step ((first | (go_at_call 82; exact Calls.later_same (HK82.out _)) | (go_at_call 102; exact Calls.later (HK102.out _))))
            refine wpQuiet_nil ?_
            rintro w3 ⟨⟨_, hb3⟩, rfl⟩
            go_wp2_with fail
            go_roundw
            case rel => exact ⟨j + 1 + 1, by omega, by go_num, HBE.out.trans (hb3.mono HBE.out.size), HXE.out.later hb3, HN2.out, fun i hi => (Nat.lt_succ_iff_lt_or_eq.1 hi).elim (HOK.out i) (fun h => by rw [h]; exact HOKE.out)⟩
            case measure => simp [intOf]; omega
        · rw [decide_eq_false hje, Bool.false_or] at HOKE
          have g3 : decide ((j : Int) + 1 < (e : Int)) = true := decide_eq_true (by omega)
          have g4 : decide (j + 1 < e) = true := decide_eq_true (by omega)
          have HJE := Lib.hid hje
          clear hje
          cases qc with
          | false =>
            have HV := Lib.hid (HNO.out HOKE.out)
            go_wp2_with fail
            refine wp_region_later (by kernel_rfl) (by kernel_rfl) ?_
            repeat go_big_quiet_step ((first | (go_at_call 82; exact Calls.later_same (HK82.out _)) | (go_at_call 84; exact Calls.later (HK84.out _))))
            refine wpQuiet_nil ?_
            rintro w3 ⟨⟨_, hb3⟩, rfl⟩
            go_wp2_with fail
            go_ret
            exact ⟨by rw [HV.out]; rfl, HBE.out.trans (hb3.mono HBE.out.size)⟩
          | true =>
          cases qa with
          | false =>
            have HV := Lib.hid (HNO.out HOKE.out)
            go_wp2_with fail
            refine wp_region_later (by kernel_rfl) (by kernel_rfl) ?_
            repeat go_big_quiet_step ((first | (go_at_call 82; exact Calls.later_same (HK82.out _)) | (go_at_call 84; exact Calls.later (HK84.out _)) | (go_at_call 102; exact Calls.later (HK102.out _))))
            refine wpQuiet_nil ?_
            rintro w3 ⟨⟨_, hb3⟩, rfl⟩
            go_wp2_with fail
            go_ret
            exact ⟨by rw [HV.out]; rfl, HBE.out.trans (hb3.mono HBE.out.size)⟩
          | true =>
            go_wp2_with fail
            refine wp_region_later (by kernel_rfl) (by kernel_rfl) ?_
            repeat go_big_quiet_step ((first | (go_at_call 82; exact Calls.later_same (HK82.out _)) | (go_at_call 84; exact Calls.later (HK84.out _)) | (go_at_call 102; exact Calls.later (HK102.out _))))
            refine wpQuiet_nil ?_
            rintro w3 ⟨⟨_, hb3⟩, rfl⟩
            go_wp2_with fail
            go_roundw
            case rel => exact ⟨j + 1 + 1, by omega, by go_num, HBE.out.trans (hb3.mono HBE.out.size), HXE.out.later hb3, HN2.out, fun i hi => (Nat.lt_succ_iff_lt_or_eq.1 hi).elim (HOK.out i) (fun h => by rw [h]; exact HOKE.out)⟩
            case measure => simp [intOf]; omega
end Go.Proofs.YtahpdkkpnkhnhaaGreatDoor

/- Walks: bushelref05.IsPath. -/
namespace Go.Proofs.YtahpdkkpnkhnhaaGreatDoor
open Go Go.Proofs Go.RowKit Go.Shelf

set_option maxRecDepth 100000 in
set_option maxHeartbeats 1000000 in
theorem isPath89 (w : World) (v1 v2 u : Value) (p : Pl) (l : List Int) (hv : PlR w w.heap.size v1 v2 p) (hu : Sl encI 1 w w.heap.size u l) (hin : ∀ x ∈ l, inN p.ms.length x = true) : Calls Tryz.prog 89 #[.agg #[v1, v2], u] w (Ret (.bool (pathB p l)) w) := by
  have HU := Lib.hid hu
  have HAR := Lib.hid hv.arcs
  obtain ⟨⟨a1, n1, rfl, hl1, hA1⟩, ⟨a2, n2, rfl, hl2, hA2⟩⟩ := hv
  obtain ⟨a, c, rfl, hlen, hA⟩ := hu
  have HA1 := Lib.hid hA1
  have HA := Lib.hid hA
  have HIN := Lib.hid hin
  clear hA1 hA2 hA hl2 hin
  obtain ⟨h11, h12⟩ := hl1
  obtain ⟨hl, hlc⟩ := hlen
  obtain ⟨R, hR⟩ : ∃ R, pathB p l = R := ⟨_, rfl⟩
  rw [hR]
  have HR := Lib.hid hR
  clear hR
  have HB := Lib.hid ((Below.refl w.heap.size w).alloc (Nat.le_refl _) (.cells #[.slice a1 p.ms.length n1, .slice a2 p.arcs.length n2] 25))
  have HX := Lib.hid (Box.new w #[.slice a1 p.ms.length n1, .slice a2 p.arcs.length n2] 25)
  obtain ⟨n, hn⟩ : ∃ n, p.ms.length = n := ⟨_, rfl⟩
  obtain ⟨m, hm⟩ : ∃ m, p.arcs.length = m := ⟨_, rfl⟩
  obtain ⟨ln, hln⟩ : ∃ m, l.length = m := ⟨_, rfl⟩
  rw [hn] at HB HX h11 h12 HIN ⊢
  rw [hm] at HB HX HAR ⊢
  rw [hln] at hl hlc HU ⊢
  have HN := Lib.hid hn
  have HM := Lib.hid hm
  have HLN := Lib.hid hln
  clear hn hm hln
  have HUL := Lib.hid (fun (w1 : World) (hb : Below w.heap.size w w1) => HU.out.later hb)
  go_enter Tryz.func89, Tryz.ntmps89
  by_cases h2 : ln < 2
  · have k0 : decide ((ln : Int) < 2) = true := decide_eq_true (by omega)
    have HV := Lib.hid (pathB_no HR.out (fun h => by have := h.1; rw [HLN.out] at this; omega))
    go_wp2_with fail
    go_quiet (fail)
    go_wp2_with fail
    go_ret
    exact ⟨by rw [HV.out]; rfl, below_drewN HB.out _⟩
  obtain ⟨e, rfl⟩ : ∃ e, ln = e + 1 := ⟨ln - 1, by omega⟩
  have k0 : decide (((e + 1 : Nat) : Int) < 2) = false := decide_eq_false (by omega)
  have k0' : decide ((e : Int) + 1 < 2) = false := decide_eq_false (by omega)
  have hpos : 0 < l.length := by rw [HLN.out]; omega
  have hel : e < l.length := by rw [HLN.out]; omega
  obtain ⟨b, off, rfl, hbb, hcells⟩ := HA.out hpos
  have HC := Lib.hid hcells
  have c0 := (hcells 0 hpos).c1
  rw [Nat.zero_mul, Nat.add_zero] at c0
  obtain ⟨x0, hx0, hx0n⟩ := inN_nat (HIN.out l[0] (List.getElem_mem hpos))
  obtain ⟨xe, hxe, hxen⟩ := inN_nat (HIN.out l[e] (List.getElem_mem hel))
  rw [hx0] at c0
  have HX0 := Lib.hid (show l.getD 0 0 = (x0 : Int) by rw [getD_at l 0 hpos, hx0])
  have HXE := Lib.hid (show l.getD (l.length - 1) 0 = (xe : Int) by rw [show l.length - 1 = e by rw [HLN.out]; rfl, getD_at l e hel, hxe])
  have hx0l : x0 < p.ms.length := by rw [HN.out]; exact hx0n
  have hxel : xe < p.ms.length := by rw [HN.out]; exact hxen
  obtain ⟨b1, off1, rfl, hbb1, hcells1⟩ := HA1.out (by omega)
  have HC1 := Lib.hid hcells1
  obtain ⟨ct0, ct1⟩ := (hcells1 x0 hx0l).c2
  have HK0 := Lib.hid (kdA_nat hx0l)
  have HKE := Lib.hid (kdA_nat hxel)
  have HCE := Lib.hid (hcells1 xe hxel)
  have HCL := Lib.hid (show At w b (off + e * 1) (encI xe) by rw [← hxe]; exact hcells e hel)
  clear hcells hcells1 hx0 hxe hpos
  generalize p.ms[x0] = m0 at *
  generalize p.ms[xe] = me at *
  clear hel hx0l hxel
  obtain ⟨s0, t0⟩ := m0
  obtain ⟨se, te⟩ := me
  dsimp only at ct0 ct1 HK0 HKE
  have HBX := Lib.hid (fun (X : Later (w.alloc (.cells #[.slice (some ⟨b1, off1, none⟩) n n1, .slice a2 m n2] 25))) => HB.out.trans (X.h.mono HB.out.size))
  have HK126 := Lib.hid (fun (X : Later (w.alloc (.cells #[.slice (some ⟨b1, off1, none⟩) n n1, .slice a2 m n2] 25))) => twice126 _ l X.w (HUL.out _ (HBX.out X)))
  have HK86 := Lib.hid (fun (X : Later (w.alloc (.cells #[.slice (some ⟨b1, off1, none⟩) n n1, .slice a2 m n2] 25))) => isFirst86 s0 X.w)
  have HK87 := Lib.hid (fun (X : Later (w.alloc (.cells #[.slice (some ⟨b1, off1, none⟩) n n1, .slice a2 m n2] 25))) => isLast87 se X.w)
  obtain ⟨qd, hqd⟩ : ∃ q, dupB l = q := ⟨_, rfl⟩
  obtain ⟨q0, hq0⟩ : ∃ q, bgB s0 = q := ⟨_, rfl⟩
  obtain ⟨qe, hqe⟩ : ∃ q, enB se = q := ⟨_, rfl⟩
  rw [hqd] at HK126
  rw [hq0] at HK86
  rw [hqe] at HK87
  have HQD := Lib.hid hqd
  have HQ0 := Lib.hid hq0
  have HQE := Lib.hid hqe
  clear hq0 hqe hqd
  have d0 := HCL.out.c1
  obtain ⟨de0, de1⟩ := HCE.out.c2
  rw [Nat.mul_one] at d0
  have hbz : b < w.heap.size := hbb
  have hb1z : b1 < w.heap.size := hbb1
  cases qd with
  | true =>
    have HV := Lib.hid (pathB_no HR.out (fun h => by have := (nodup_dup l).2 h.2.2.2.1; rw [HQD.out] at this; cases this))
    go_wp2_with fail
    refine wp_region_later (by kernel_rfl) (by kernel_rfl) ?_
    repeat go_big_quiet_step ((first | (go_at_call 126; exact Calls.later (HK126.out _)) | (go_at_call 86; exact Calls.later_same (HK86.out _)) | (go_at_call 87; exact Calls.later_same (HK87.out _))))
    refine wpQuiet_nil ?_
    rintro w2 ⟨⟨_, hb2⟩, rfl⟩
    go_wp2_with fail
    go_ret
    exact ⟨by rw [HV.out]; rfl, HB.out.trans (hb2.mono HB.out.size)⟩
  | false =>
  cases q0 with
  | false =>
    have HV := Lib.hid (pathB_no HR.out (fun h => by have := h.2.1; rw [HX0.out, HK0.out, HQ0.out] at this; cases this))
    go_wp2_with fail
    refine wp_region_later (by kernel_rfl) (by kernel_rfl) ?_
    repeat go_big_quiet_step ((first | (go_at_call 126; exact Calls.later (HK126.out _)) | (go_at_call 86; exact Calls.later_same (HK86.out _)) | (go_at_call 87; exact Calls.later_same (HK87.out _))))
    refine wpQuiet_nil ?_
    rintro w2 ⟨⟨_, hb2⟩, rfl⟩
    go_wp2_with fail
    go_ret
    exact ⟨by rw [HV.out]; rfl, HB.out.trans (hb2.mono HB.out.size)⟩
  | true =>
  cases qe with
  | false =>
    have HV := Lib.hid (pathB_no HR.out (fun h => by have := h.2.2.1; rw [HXE.out, HKE.out, HQE.out] at this; cases this))
    go_wp2_with fail
    refine wp_region_later (by kernel_rfl) (by kernel_rfl) ?_
    repeat go_big_quiet_step ((first | (go_at_call 126; exact Calls.later (HK126.out _)) | (go_at_call 86; exact Calls.later_same (HK86.out _)) | (go_at_call 87; exact Calls.later_same (HK87.out _))))
    refine wpQuiet_nil ?_
    rintro w2 ⟨⟨_, hb2⟩, rfl⟩
    go_wp2_with fail
    go_ret
    exact ⟨by rw [HV.out]; rfl, HB.out.trans (hb2.mono HB.out.size)⟩
  | true =>
    go_wp2_with fail
    refine wp_region_later (by kernel_rfl) (by kernel_rfl) ?_
    repeat go_big_quiet_step ((first | (go_at_call 126; exact Calls.later (HK126.out _)) | (go_at_call 86; exact Calls.later_same (HK86.out _)) | (go_at_call 87; exact Calls.later_same (HK87.out _))))
    refine wpQuiet_nil ?_
    rintro w2 ⟨⟨_, hb2⟩, rfl⟩
    go_wp2_with fail
    have HR2 := Lib.hid (fun (h' : ∀ k, k < l.length → okK p l k = true) => show R = true by rw [← HR.out]; exact (pathB_iff p l).2 ⟨by rw [HLN.out]; omega, by rw [HX0.out, HK0.out]; exact HQ0.out, by rw [HXE.out, HKE.out]; exact HQE.out, (nodup_dup l).1 HQD.out, h'⟩)
    have HB2 := Lib.hid (HB.out.trans (hb2.mono HB.out.size))
    have HX2 := Lib.hid (HX.out.later hb2)
    clear HB HX HBX hb2 HK86 HK87 HK126 ct0 ct1 c0 d0 de0 de1 HK0 HKE HX0 HXE HQ0 HQE HCL HCE HQD
    go_loopw [6] (fun i wr => ∃ k : Nat, 1 ≤ k ∧ k ≤ e + 1 ∧ i = .int .i64 k ∧ Below w.heap.size w wr ∧ Box wr w.heap.size 25 [.slice (some ⟨b1, off1, none⟩) n n1, .slice a2 m n2] ∧ ∀ j, j < k → okK p l j = true) (fun i _ => e + 1 - (intOf i).toNat)
    case atStart => exact ⟨1, by omega, by omega, rfl, HB2.out, HX2.out, fun j hj => by rw [show j = 0 from Nat.lt_one_iff.1 hj]; rfl⟩
    case round =>
      clear HB2 HX2
      obtain ⟨k, hk1, hk, rfl, hbe, hx, hok⟩ := hrel
      obtain ⟨j, rfl⟩ : ∃ j, k = j + 1 := ⟨k - 1, by omega⟩
      clear hk1
      have HOK := Lib.hid hok
      have HBE := Lib.hid hbe
      have HXE := Lib.hid hx
      obtain ⟨x0, x1, xf, xz⟩ := hx.v2
      clear hok
      by_cases hlt : j < e
      rotate_left
      · obtain rfl : j = e := by omega
        have HV := Lib.hid (HR2.out (fun k hk => HOK.out k (by rw [HLN.out] at hk; exact hk)))
        clear hbe hx
        go_wp2_with fail
        go_ret
        exact ⟨by rw [HV.out]; rfl, HBE.out⟩
      have hkl : j + 1 < l.length := by rw [HLN.out]; omega
      have c0 := ((HC.out (j + 1) hkl).below hbe hbb).c1
      rw [Nat.mul_one] at c0
      have hbz : b < wr.heap.size := by have := hbe.size; omega
      have hb1z : b1 < wr.heap.size := by have := hbe.size; omega
      obtain ⟨x, hx', hxn⟩ := inN_nat (HIN.out l[j + 1] (List.getElem_mem hkl))
      rw [hx'] at c0
      have hxl : x < p.ms.length := by rw [HN.out]; exact hxn
      obtain ⟨cx0, cx1⟩ := ((HC1.out x hxl).below hbe hbb1).c2
      have HLK := Lib.hid (show l.getD (j + 1) 0 = (x : Int) by rw [getD_at l (j + 1) hkl, hx'])
      have HKX := Lib.hid (kdA_nat hxl)
      have HNO := Lib.hid (fun (h : okK p l (j + 1) = false) => pathB_no HR.out (fun h' => by have := h'.2.2.2.2 (j + 1) hkl; rw [h] at this; cases this))
      clear hbe hx hx'
      generalize p.ms[x] = mx at *
      clear hxl
      obtain ⟨sx, tx⟩ := mx
      dsimp only at cx0 cx1 HKX
      have HK42 := Lib.hid (fun (X : Later wr) => isConveyor42 sx X.w)
      obtain ⟨qc, hqc⟩ : ∃ q, cvB sx = q := ⟨_, rfl⟩
      rw [hqc] at HK42
      have HQC := Lib.hid hqc
      clear hqc
      have hjl : j < l.length := by rw [HLN.out]; omega
      have cj := ((HC.out j hjl).below HBE.out hbb).c1
      rw [Nat.mul_one] at cj
      obtain ⟨y, hy, hyn⟩ := inN_nat (HIN.out l[j] (List.getElem_mem hjl))
      rw [hy] at cj
      have HLJ := Lib.hid (show l.getD j 0 = (y : Int) by rw [getD_at l j hjl, hy])
      clear hy hjl
      have HK140 := Lib.hid (fun (X : Later wr) => hasArc140 (.slice (some ⟨b1, off1, none⟩) n n1) _ p.arcs ⟨y, x⟩ X.w ⟨_, _, _, rfl⟩ (HAR.out.later (HBE.out.trans (X.h.mono HBE.out.size))))
      obtain ⟨qa, hqa⟩ : ∃ q, decide ((⟨(y : Int), (x : Int)⟩ : Ar) ∈ p.arcs) = q := ⟨_, rfl⟩
      rw [hqa] at HK140
      have HOKE := Lib.hid (show okK p l (j + 1) = ((decide (j + 1 = e) || qc) && qa) by
        unfold okK
        rw [HLN.out, HLK.out, HKX.out, HQC.out, show j + 1 - 1 = j by omega, HLJ.out, hqa, decide_eq_false (show ¬ j + 1 = 0 by omega), Bool.false_or]
        congr 2
        exact decide_eq_decide.2 (by omega))
      clear hqa
      have g2 : decide ((j : Int) + 1 < (e : Int) + 1) = true := decide_eq_true (by omega)
      have g2' : decide ((j : Int) < (e : Int)) = true := decide_eq_true (by omega)
      by_cases hje : j + 1 = e
      · rw [decide_eq_true hje, Bool.true_or, Bool.true_and] at HOKE
        have g3 : decide ((j : Int) + 1 < (e : Int)) = false := decide_eq_false (by omega)
        have g4 : decide (j + 1 < e) = false := decide_eq_false (by omega)
        have HJE := Lib.hid hje
        clear hje
        cases qa with
        | false =>
          have HV := Lib.hid (HNO.out HOKE.out)
          go_wp2_with fail
          refine wp_region_later (by kernel_rfl) (by kernel_rfl) ?_
          repeat go_big_quiet_step ((first | (go_at_call 140; exact Calls.later (HK140.out _)) | (go_at_call 42; exact Calls.later_same (HK42.out _))))
          refine wpQuiet_nil ?_
          rintro w3 ⟨⟨_, hb3⟩, rfl⟩
          go_wp2_with fail
          go_ret
          exact ⟨by rw [HV.out]; rfl, HBE.out.trans (hb3.mono HBE.out.size)⟩
        | true =>
          go_wp2_with fail
          refine wp_region_later (by kernel_rfl) (by kernel_rfl) ?_
          repeat go_big_quiet_step ((first | (go_at_call 140; exact Calls.later (HK140.out _)) | (go_at_call 42; exact Calls.later_same (HK42.out _))))
          refine wpQuiet_nil ?_
          rintro w3 ⟨⟨_, hb3⟩, rfl⟩
          go_wp2_with fail
          go_roundw
          case rel => exact ⟨j + 1 + 1, by omega, by omega, by go_num, HBE.out.trans (hb3.mono HBE.out.size), HXE.out.later hb3, fun i hi => (Nat.lt_succ_iff_lt_or_eq.1 hi).elim (HOK.out i) (fun h => by rw [h]; exact HOKE.out)⟩
          case measure => simp [intOf]; omega
      · rw [decide_eq_false hje, Bool.false_or] at HOKE
        have g3 : decide ((j : Int) + 1 < (e : Int)) = true := decide_eq_true (by omega)
        have g4 : decide (j + 1 < e) = true := decide_eq_true (by omega)
        have HJE := Lib.hid hje
        clear hje
        cases qa with
        | false =>
          rw [Bool.and_false] at HOKE
          have HV := Lib.hid (HNO.out HOKE.out)
          go_wp2_with fail
          refine wp_region_later (by kernel_rfl) (by kernel_rfl) ?_
          repeat go_big_quiet_step ((first | (go_at_call 140; exact Calls.later (HK140.out _)) | (go_at_call 42; exact Calls.later_same (HK42.out _))))
          refine wpQuiet_nil ?_
          rintro w3 ⟨⟨_, hb3⟩, rfl⟩
          go_wp2_with fail
          go_ret
          exact ⟨by rw [HV.out]; rfl, HBE.out.trans (hb3.mono HBE.out.size)⟩
        | true =>
        cases qc with
        | false =>
          have HV := Lib.hid (HNO.out HOKE.out)
          go_wp2_with fail
          refine wp_region_later (by kernel_rfl) (by kernel_rfl) ?_
          repeat go_big_quiet_step ((first | (go_at_call 140; exact Calls.later (HK140.out _)) | (go_at_call 42; exact Calls.later_same (HK42.out _))))
          refine wpQuiet_nil ?_
          rintro w3 ⟨⟨_, hb3⟩, rfl⟩
          go_wp2_with fail
          go_ret
          exact ⟨by rw [HV.out]; rfl, HBE.out.trans (hb3.mono HBE.out.size)⟩
        | true =>
          go_wp2_with fail
          refine wp_region_later (by kernel_rfl) (by kernel_rfl) ?_
          repeat go_big_quiet_step ((first | (go_at_call 140; exact Calls.later (HK140.out _)) | (go_at_call 42; exact Calls.later_same (HK42.out _))))
          refine wpQuiet_nil ?_
          rintro w3 ⟨⟨_, hb3⟩, rfl⟩
          go_wp2_with fail
          go_roundw
          case rel => exact ⟨j + 1 + 1, by omega, by omega, by go_num, HBE.out.trans (hb3.mono HBE.out.size), HXE.out.later hb3, fun i hi => (Nat.lt_succ_iff_lt_or_eq.1 hi).elim (HOK.out i) (fun h => by rw [h]; exact HOKE.out)⟩
          case measure => simp [intOf]; omega
end Go.Proofs.YtahpdkkpnkhnhaaGreatDoor
