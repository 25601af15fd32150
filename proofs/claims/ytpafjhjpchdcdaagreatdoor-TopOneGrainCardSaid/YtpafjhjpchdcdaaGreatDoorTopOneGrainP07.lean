/- Lemmas on the way to the law TopOneGrain (part 7): YBc -/
import Derived.Test.YtpafjhjpchdcdaaGreatDoorTopOneGrainP06
set_option linter.unusedVariables false
set_option linter.unusedSimpArgs false

/- Walks: whether a state is valid. -/
namespace Go.Proofs.YtpafjhjpchdcdaaGreatDoor
open Go Go.Proofs Go.RowKit Go.Shelf
def s0 : Sx := ⟨false, 0, ⟨#[]⟩⟩
def fedB (st : List Sx) (i : Nat) (x : Int) : Bool := (st.take i).any (fun s => s.feeds == x)
theorem fedB_succ (st : List Sx) (i : Nat) (x : Int) (h : i < st.length) : fedB st (i + 1) x = (fedB st i x || st[i].feeds == x) := by
  unfold fedB; rw [List.take_succ_eq_append_getElem h, List.any_append]; simp
def vdK (p : Pl) (st : List Sx) (i : Nat) : Bool :=
  if (st.getD i s0).feeds < 0 then !(st.getD i s0).runs else
  !(fedB st i (st.getD i s0).feeds || ((st.getD i s0).runs && cvB (kdA p (st.getD i s0).feeds) && !(st.getD (st.getD i s0).feeds.toNat s0).runs)) &&
  !((kpB (kdA p i) && (st.getD i s0).grain.toList.isEmpty) || (kpB (kdA p (st.getD i s0).feeds) && (st.getD (st.getD i s0).feeds.toNat s0).grain.toList.isEmpty) || (kpB (kdA p i) && kpB (kdA p (st.getD i s0).feeds) && !((st.getD i s0).grain.toList == (st.getD (st.getD i s0).feeds.toNat s0).grain.toList)))
def validB (p : Pl) (st : List Sx) : Bool := (List.range st.length).all (vdK p st)
theorem validB_iff (p : Pl) (st : List Sx) : validB p st = true ↔ ∀ k, k < st.length → vdK p st k = true := by
  unfold validB; simp only [List.all_eq_true, List.mem_range]
theorem validB_no {p : Pl} {st : List Sx} {R : Bool} (h : validB p st = R) {k : Nat} (hk : k < st.length) (hn : vdK p st k = false) : R = false := by
  cases R with
  | false => rfl
  | true => have := (validB_iff p st).1 h k hk; rw [hn] at this; cases this
theorem stGet {st : List Sx} {k : Nat} (h : k < st.length) : st.getD k s0 = st[k] := by rw [List.getD_eq_getElem?_getD, List.getElem?_eq_getElem h]; rfl
theorem At.c3 {w : World} {b o : Nat} {x y z : Value} (h : At w b o [x, y, z]) : w.cell? ⟨b, o, none⟩ = some x ∧ w.cell? ⟨b, o + 1, none⟩ = some y ∧ w.cell? ⟨b, o + 2, none⟩ = some z := ⟨h 0 x rfl, h 1 y rfl, h 2 z rfl⟩
theorem boolBox {w : World} {b e : Nat} {fl : List Bool} (h : Box w b e (fl.map Value.bool)) {x : Nat} {q : Bool} (hq : fl[x]? = some q) : w.cell? ⟨b, x, none⟩ = some (.bool q) := by
  rw [h.cell, List.getElem?_map, hq]; rfl
theorem empty_of {s : ByteArray} (h : s.toList.isEmpty = true) : s.toList = [] := List.isEmpty_iff.1 h
theorem bne_of {a b : List UInt8} {q : Bool} (h : (a == b) = q) : (a != b) = !q := by rw [bne, h]
theorem fed_set {st : List Sx} {k kf x : Nat} {fl : List Bool} (h : fl[x]? = some (fedB st k x)) (h2 : fedB st (k + 1) x = (fedB st k x || decide (kf = x))) : (fl.set kf true)[x]? = some (fedB st (k + 1) x) := by
  rw [h2, List.getElem?_set]
  by_cases e : kf = x
  · subst e
    rw [if_pos rfl, if_pos (List.getElem?_eq_some_iff.1 h).1]; simp
  · rw [if_neg e, h, decide_eq_false e, Bool.or_false]
set_option maxRecDepth 100000 in
set_option maxHeartbeats 1000000 in
theorem isValid107 (w : World) (v1 v2 u : Value) (p : Pl) (st : List Sx) (hw : WdR w) (hv : PlR w w.heap.size v1 v2 p) (hu : Sl Sx.enc 3 w w.heap.size u st) (hln : st.length = p.ms.length) (h64 : p.ms.length ≤ 64) (hfd : ∀ s ∈ st, s.feeds < 0 ∨ inN p.ms.length s.feeds = true) : Calls Tryz.prog 78 #[.agg #[v1, v2], u] w (Ret (.bool (validB p st)) w) := by
  have HWD := Lib.hid (fun (w1 : World) (hb : Below w.heap.size w w1) => hw.later hb)
  obtain ⟨⟨a1, n1, rfl, hl1, hA1⟩, ⟨a2, n2, rfl, hl2, hA2⟩⟩ := hv
  obtain ⟨a, c, rfl, hlen, hA⟩ := hu
  have HA1 := Lib.hid hA1
  have HA := Lib.hid hA
  have HFD := Lib.hid hfd
  clear hA1 hA2 hA hl2 hfd hw
  obtain ⟨h11, h12⟩ := hl1
  obtain ⟨hl, hlc⟩ := hlen
  obtain ⟨R, hR⟩ : ∃ R, validB p st = R := ⟨_, rfl⟩
  rw [hR]
  have HR := Lib.hid hR
  have HRT := Lib.hid (fun (h : ∀ k, k < st.length → vdK p st k = true) => show R = true by rw [← hR]; exact (validB_iff p st).2 h)
  clear hR
  obtain ⟨n, hn⟩ : ∃ n, p.ms.length = n := ⟨_, rfl⟩
  obtain ⟨m, hm⟩ : ∃ m, p.arcs.length = m := ⟨_, rfl⟩
  rw [hln] at hl hlc ⊢
  rw [hn] at h11 h12 HFD hl hlc h64 hln ⊢
  rw [hm]
  have HN := Lib.hid hn
  have HLN := Lib.hid hln
  clear hn hm hln
  go_enter Tryz.func78, Tryz.ntmps78
  go_wp2_with fail
  go_loopw [13] (fun i wr => ∃ k : Nat, k ≤ n ∧ i = .int .i64 k ∧ Below w.heap.size w wr ∧ Box wr w.heap.size 25 [.slice a1 n n1, .slice a2 m n2] ∧ (∃ fl : List Bool, Box wr (w.heap.size + 1) 144 (fl.map Value.bool) ∧ ∀ x : Nat, x < 64 → fl[x]? = some (fedB st k x)) ∧ ∀ j, j < k → vdK p st j = true) (fun i _ => n - (intOf i).toNat)
  case atStart =>
    refine ⟨0, by omega, rfl, ((Below.refl w.heap.size w).alloc (Nat.le_refl _) _).alloc (by simp) _, (Box.new w _ 25).alloc _, ⟨List.replicate 64 false, Box.newAt _ _ 144 (by simp), fun x hx => ?_⟩, fun j hj => absurd hj (by omega)⟩
    rw [List.getElem?_replicate, if_pos hx]
    unfold fedB
    simp
  case round =>
    obtain ⟨k, hk, rfl, hbe, hx, ⟨fl, hfl, hfv⟩, hok⟩ := hrel
    have HOK := Lib.hid hok
    have HBE := Lib.hid hbe
    have HXE := Lib.hid hx
    have HFL := Lib.hid hfl
    have HFV := Lib.hid hfv
    clear hok hbe hx hfl hfv
    by_cases hlt : k < n
    rotate_left
    · obtain rfl : n = k := by omega
      have HV := Lib.hid (HRT.out (fun k hk => HOK.out k (by rw [HLN.out] at hk; exact hk)))
      go_wp2_with fail
      go_ret
      exact ⟨by rw [HV.out]; rfl, HBE.out⟩
    have hks : k < st.length := by rw [HLN.out]; exact hlt
    have hkp : k < p.ms.length := by rw [HN.out]; exact hlt
    obtain ⟨b, off, rfl, hbb, hcells⟩ := HA.out (by omega)
    obtain ⟨b1, off1, rfl, hbb1, hcells1⟩ := HA1.out (by omega)
    have HCK := Lib.hid (hcells k hks)
    have HC := Lib.hid hcells
    have HC1 := Lib.hid hcells1
    have HKK := Lib.hid (kdA_nat hkp)
    have HCM := Lib.hid (hcells1 k hkp)
    have HFK := Lib.hid (HFD.out st[k] (List.getElem_mem hks))
    have HFS := Lib.hid (fun x => fedB_succ st k x hks)
    have HGK := Lib.hid (stGet hks)
    have HNO := Lib.hid (fun (h : vdK p st k = false) => validB_no HR.out hks h)
    clear hcells hcells1
    generalize st[k] = sk at *
    generalize p.ms[k] = mk at *
    clear hks hkp
    obtain ⟨runs, feeds, grain⟩ := sk
    obtain ⟨sm, tm⟩ := mk
    dsimp only at HFK HFS HKK
    obtain ⟨c0, c1, c2⟩ := (HCK.out.below HBE.out hbb).c3
    dsimp only at c0 c1 c2
    have hbz : b < wr.heap.size := Nat.lt_of_lt_of_le hbb HBE.out.size
    have HB := Lib.hid (HBE.out.alloc (by have := HBE.out.size; omega) (.cells #[.bool runs, .int .i64 feeds, .string grain] 58))
    have HX := Lib.hid (HXE.out.alloc (.cells #[.bool runs, .int .i64 feeds, .string grain] 58))
    have HF := Lib.hid (HFL.out.alloc (.cells #[.bool runs, .int .i64 feeds, .string grain] 58))
    have HS := Lib.hid (Box.new wr #[.bool runs, .int .i64 feeds, .string grain] 58)
    have HSZ : w.heap.size + 1 < wr.heap.size := HFL.out.lt
    obtain ⟨ws, hws⟩ : ∃ x, wr.heap.size = x := ⟨_, rfl⟩
    have HVD := Lib.hid (show vdK p st k = if feeds < 0 then !runs else !(fedB st k feeds || (runs && cvB (kdA p feeds) && !(st.getD feeds.toNat s0).runs)) && !((kpB sm && grain.toList.isEmpty) || (kpB (kdA p feeds) && (st.getD feeds.toNat s0).grain.toList.isEmpty) || (kpB sm && kpB (kdA p feeds) && !(grain.toList == (st.getD feeds.toNat s0).grain.toList))) by unfold vdK; rw [HGK.out, HKK.out])
    by_cases hf0 : feeds < 0
    · have d0 : decide (feeds < 0) = true := decide_eq_true hf0
      rw [if_pos hf0] at HVD
      have HFN := Lib.hid (show ∀ x : Nat, fedB st (k + 1) x = fedB st k x from fun x => by rw [HFS.out x, show (feeds == (x : Int)) = false from beq_eq_false_iff_ne.2 (by omega), Bool.or_false])
      clear hf0 hws
      have y0 := HS.out.cell 0
      have y1 := HS.out.cell 1
      have yz := HS.out.lt
      simp only [List.getElem?_cons_zero, List.getElem?_cons_succ] at y0 y1
      cases runs with
      | true =>
        have HV := Lib.hid (HNO.out HVD.out)
        go_wp2_with fail
        go_ret
        exact ⟨by rw [HV.out]; rfl, HB.out⟩
      | false =>
        go_wp2_with fail
        go_roundw
        case rel => exact ⟨k + 1, by omega, by go_num, HB.out, HX.out, ⟨fl, HF.out, fun x hx => by rw [HFV.out x hx, HFN.out]⟩, fun i hi => (Nat.lt_succ_iff_lt_or_eq.1 hi).elim (HOK.out i) (fun h => by rw [h]; exact HVD.out)⟩
        case measure => simp [intOf]; omega
    have d0 : decide (feeds < 0) = false := decide_eq_false hf0
    rw [if_neg hf0] at HVD
    obtain ⟨kf, rfl, hkf⟩ := inN_nat (HFK.out.resolve_left hf0)
    rw [Int.toNat_natCast] at HVD
    clear hf0 HFK
    have hfs : kf < st.length := by rw [HLN.out]; exact hkf
    have hfp : kf < p.ms.length := by rw [HN.out]; exact hkf
    have HCT := Lib.hid (HC.out kf hfs)
    have HCN := Lib.hid (HC1.out kf hfp)
    have HGF := Lib.hid (stGet hfs)
    have HKF := Lib.hid (kdA_nat hfp)
    rw [HGF.out, HKF.out] at HVD
    clear HGF HKF
    generalize st[kf] = sf at *
    generalize p.ms[kf] = mf at *
    clear hfs hfp
    obtain ⟨rk, fk, gk⟩ := sf
    obtain ⟨sn, tn⟩ := mf
    dsimp only at HVD
    have HFC := Lib.hid (HFV.out kf (by omega))
    have HFN := Lib.hid (show ∀ x : Nat, fedB st (k + 1) x = (fedB st k x || decide (kf = x)) from fun x => by rw [HFS.out x]; congr 1; rw [Bool.eq_iff_iff]; simp; omega)
    obtain ⟨qf, hqf⟩ : ∃ q, fedB st k kf = q := ⟨_, rfl⟩
    obtain ⟨qc, hqc⟩ : ∃ q, cvB sn = q := ⟨_, rfl⟩
    obtain ⟨km, hkm⟩ : ∃ q, kpB sm = q := ⟨_, rfl⟩
    obtain ⟨kk, hkk⟩ : ∃ q, kpB sn = q := ⟨_, rfl⟩
    obtain ⟨ge, hge⟩ : ∃ q, grain.toList.isEmpty = q := ⟨_, rfl⟩
    obtain ⟨gke, hgke⟩ : ∃ q, gk.toList.isEmpty = q := ⟨_, rfl⟩
    obtain ⟨gq, hgq⟩ : ∃ q, (grain.toList == gk.toList) = q := ⟨_, rfl⟩
    rw [hqf] at HFC
    rw [hqf, hqc, hkm, hkk, hge, hgke, hgq] at HVD
    have HK84 := Lib.hid (fun (w1 : World) (hb : Below w.heap.size w w1) => conveys84 sn tn w1 (HWD.out _ hb))
    rw [hqc] at HK84
    have HK96 := Lib.hid (fun s t (w1 : World) (hb : Below w.heap.size w w1) => keeps96 s t w1 (HWD.out _ hb))
    have HKM := Lib.hid hkm
    have HKN := Lib.hid hkk
    have HGE := Lib.hid hge
    have HGKE := Lib.hid hgke
    have HGQ := Lib.hid hgq
    clear hqf hqc hkm hkk hge hgke hgq HFS HGK HKK HCK
    have f0 := boolBox HF.out HFC.out
    have ff := HF.out.frozen
    have fz := HF.out.lt
    clear hws ws
    have X0 := HX.out.cell 0
    have X1 := HX.out.cell 1
    have Xf := HX.out.frozen
    have Xz := HX.out.lt
    have S0 := HS.out.cell 0
    have S1 := HS.out.cell 1
    have S2 := HS.out.cell 2
    have Sf := HS.out.frozen
    have Sz := HS.out.lt
    simp only [List.getElem?_cons_zero, List.getElem?_cons_succ] at X0 X1 S0 S1 S2
    obtain ⟨t0, t1, t2⟩ := (HCT.out.below HB.out hbb).c3
    have bz := Nat.lt_of_lt_of_le hbb HB.out.size
    obtain ⟨n0, n1⟩ := (HCN.out.below HB.out hbb1).c2
    have b1z := Nat.lt_of_lt_of_le hbb1 HB.out.size
    obtain ⟨m0, m1⟩ := (HCM.out.below HB.out hbb1).c2
    cases qf with
    | true =>
      have HV := Lib.hid (HNO.out (HVD.out.trans rfl))
      go_wp2_with fail
      go_ret
      exact ⟨by rw [HV.out]; rfl, HB.out⟩
    | false =>
    cases runs with
    | false =>
      go_wp2_with fail
      have HB8 := Lib.hid ((HBE.out.setCell (p := ⟨w.heap.size + 1, kf, none⟩) (by simp) (.bool true)).alloc (by have := HBE.out.size; simp; omega) (.cells #[.bool false, .int .i64 kf, .string grain] 58))
      have HX8 := Lib.hid ((HXE.out.other (a := ⟨w.heap.size + 1, kf, none⟩) (.bool true) (by simp)).alloc (.cells #[.bool false, .int .i64 kf, .string grain] 58))
      have HF8 := Lib.hid ((HFL.out.set kf (.bool true)).alloc (.cells #[.bool false, .int .i64 kf, .string grain] 58))
      have HS8 := Lib.hid (Box.newAt (wr.setCell ⟨w.heap.size + 1, kf, none⟩ (.bool true)) #[.bool false, .int .i64 kf, .string grain] 58 (by simp : _ = wr.heap.size))
      clear X0 X1 Xf Xz S0 S1 S2 Sf Sz t0 t1 t2 bz n0 n1 b1z m0 m1 f0 ff fz
      obtain ⟨W8, hW8⟩ : ∃ W, (wr.setCell ⟨w.heap.size + 1, kf, none⟩ (.bool true)).alloc (.cells #[.bool false, .int .i64 kf, .string grain] 58) = W := ⟨_, rfl⟩
      rw [hW8] at HB8 HX8 HF8 HS8 ⊢
      clear hW8
      have X0 := HX8.out.cell 0
      have X1 := HX8.out.cell 1
      have Xf := HX8.out.frozen
      have Xz := HX8.out.lt
      have S0 := HS8.out.cell 0
      have S1 := HS8.out.cell 1
      have S2 := HS8.out.cell 2
      have Sf := HS8.out.frozen
      have Sz := HS8.out.lt
      simp only [List.getElem?_cons_zero, List.getElem?_cons_succ] at X0 X1 S0 S1 S2
      obtain ⟨t0, t1, t2⟩ := (HCT.out.below HB8.out hbb).c3
      have bz := Nat.lt_of_lt_of_le hbb HB8.out.size
      obtain ⟨n0, n1⟩ := (HCN.out.below HB8.out hbb1).c2
      have b1z := Nat.lt_of_lt_of_le hbb1 HB8.out.size
      obtain ⟨m0, m1⟩ := (HCM.out.below HB8.out hbb1).c2
      have HK := Lib.hid (fun s t (X : Later W8) => HK96.out s t _ (HB8.out.trans (X.h.mono HB8.out.size)))
      refine wp_region_later (by kernel_rfl) (by kernel_rfl) ?_
      repeat go_big_quiet_step ((go_at_call 37; exact Calls.later (HK.out _ _ _)))
      refine wpQuiet_nil ?_
      rintro w9 ⟨⟨_, hb⟩, rfl⟩
      have HF9 := Lib.hid (HF8.out.later hb)
      have HB9 := Lib.hid (HB8.out.trans (hb.mono HB8.out.size))
      have HX9 := Lib.hid (HX8.out.later hb)
      have HS9 := Lib.hid (HS8.out.later hb)
      clear hb X0 X1 Xf Xz S0 S1 S2 Sf Sz t0 t1 t2 bz n0 n1 b1z m0 m1
      have X0 := HX9.out.cell 0
      have X1 := HX9.out.cell 1
      have Xf := HX9.out.frozen
      have Xz := HX9.out.lt
      have S0 := HS9.out.cell 0
      have S1 := HS9.out.cell 1
      have S2 := HS9.out.cell 2
      have Sf := HS9.out.frozen
      have Sz := HS9.out.lt
      simp only [List.getElem?_cons_zero, List.getElem?_cons_succ] at X0 X1 S0 S1 S2
      obtain ⟨t0, t1, t2⟩ := (HCT.out.below HB9.out hbb).c3
      have bz := Nat.lt_of_lt_of_le hbb HB9.out.size
      obtain ⟨n0, n1⟩ := (HCN.out.below HB9.out hbb1).c2
      have b1z := Nat.lt_of_lt_of_le hbb1 HB9.out.size
      obtain ⟨m0, m1⟩ := (HCM.out.below HB9.out hbb1).c2
      have hkm := HKM.out
      have hkk := HKN.out
      have hge := HGE.out
      have hgke := HGKE.out
      have hgq := HGQ.out
      have hgq2 := bne_of hgq
      cases km with
      | false =>
        cases kk with
        | false =>
          go_wp2_with fail
          go_quiet (fail)
          go_wp2_with fail
          go_roundw
          case rel =>
            refine ⟨k + 1, by omega, by go_num, below_drewN HB9.out _, HX9.out.later (below_drewN (Below.refl _ _) _), ⟨fl.set kf true, ?_, fun x hx => ?_⟩, fun i hi => (Nat.lt_succ_iff_lt_or_eq.1 hi).elim (HOK.out i) (fun h => by rw [h]; exact HVD.out.trans rfl)⟩
            · rw [List.map_set]; exact HF9.out.later (below_drewN (Below.refl _ _) _)
            · exact fed_set (HFV.out x hx) (HFN.out x)
          case measure => simp [intOf]; omega
        | true =>
        cases gke with
        | true =>
          have gke0 := empty_of hgke
          go_wp2_with fail
          go_quiet (fail)
          go_wp2_with fail
          have HV := Lib.hid (HNO.out (HVD.out.trans rfl))
          go_ret
          exact ⟨by rw [HV.out]; rfl, below_drewN HB9.out _⟩
        | false =>
        go_wp2_with fail
        go_quiet (fail)
        go_wp2_with fail
        go_roundw
        case rel =>
          refine ⟨k + 1, by omega, by go_num, below_drewN HB9.out _, HX9.out.later (below_drewN (Below.refl _ _) _), ⟨fl.set kf true, ?_, fun x hx => ?_⟩, fun i hi => (Nat.lt_succ_iff_lt_or_eq.1 hi).elim (HOK.out i) (fun h => by rw [h]; exact HVD.out.trans rfl)⟩
          · rw [List.map_set]; exact HF9.out.later (below_drewN (Below.refl _ _) _)
          · exact fed_set (HFV.out x hx) (HFN.out x)
        case measure => simp [intOf]; omega
      | true =>
      cases ge with
      | true =>
        have ge0 := empty_of hge
        go_wp2_with fail
        go_quiet (fail)
        go_wp2_with fail
        have HV := Lib.hid (HNO.out (HVD.out.trans rfl))
        go_ret
        exact ⟨by rw [HV.out]; rfl, below_drewN HB9.out _⟩
      | false =>
      cases kk with
      | false =>
        go_wp2_with fail
        go_quiet (fail)
        go_wp2_with fail
        go_roundw
        case rel =>
          refine ⟨k + 1, by omega, by go_num, below_drewN HB9.out _, HX9.out.later (below_drewN (Below.refl _ _) _), ⟨fl.set kf true, ?_, fun x hx => ?_⟩, fun i hi => (Nat.lt_succ_iff_lt_or_eq.1 hi).elim (HOK.out i) (fun h => by rw [h]; exact HVD.out.trans rfl)⟩
          · rw [List.map_set]; exact HF9.out.later (below_drewN (Below.refl _ _) _)
          · exact fed_set (HFV.out x hx) (HFN.out x)
        case measure => simp [intOf]; omega
      | true =>
      cases gke with
      | true =>
        have gke0 := empty_of hgke
        go_wp2_with fail
        go_quiet (fail)
        go_wp2_with fail
        have HV := Lib.hid (HNO.out (HVD.out.trans rfl))
        go_ret
        exact ⟨by rw [HV.out]; rfl, below_drewN HB9.out _⟩
      | false =>
      cases gq with
      | true =>
        go_wp2_with fail
        go_quiet (fail)
        go_wp2_with fail
        go_roundw
        case rel =>
          refine ⟨k + 1, by omega, by go_num, below_drewN HB9.out _, HX9.out.later (below_drewN (Below.refl _ _) _), ⟨fl.set kf true, ?_, fun x hx => ?_⟩, fun i hi => (Nat.lt_succ_iff_lt_or_eq.1 hi).elim (HOK.out i) (fun h => by rw [h]; exact HVD.out.trans rfl)⟩
          · rw [List.map_set]; exact HF9.out.later (below_drewN (Below.refl _ _) _)
          · exact fed_set (HFV.out x hx) (HFN.out x)
        case measure => simp [intOf]; omega
      | false =>
      go_wp2_with fail
      go_quiet (fail)
      go_wp2_with fail
      have HV := Lib.hid (HNO.out (HVD.out.trans rfl))
      go_ret
      exact ⟨by rw [HV.out]; rfl, below_drewN HB9.out _⟩
    | true =>
    cases qc with
    | false =>
      go_wp2_with fail
      refine (HK84.out _ HB.out).mono ?_
      rintro e1 w1 ⟨rfl, hb⟩
      have HF1 := Lib.hid (HF.out.later hb)
      have HB1 := Lib.hid (HB.out.trans (hb.mono HB.out.size))
      have HX1 := Lib.hid (HX.out.later hb)
      have HS1 := Lib.hid (HS.out.later hb)
      clear hb X0 X1 Xf Xz S0 S1 S2 Sf Sz t0 t1 t2 bz n0 n1 b1z m0 m1
      have X0 := HX1.out.cell 0
      have X1 := HX1.out.cell 1
      have Xf := HX1.out.frozen
      have Xz := HX1.out.lt
      have S0 := HS1.out.cell 0
      have S1 := HS1.out.cell 1
      have S2 := HS1.out.cell 2
      have Sf := HS1.out.frozen
      have Sz := HS1.out.lt
      simp only [List.getElem?_cons_zero, List.getElem?_cons_succ] at X0 X1 S0 S1 S2
      obtain ⟨t0, t1, t2⟩ := (HCT.out.below HB1.out hbb).c3
      have bz := Nat.lt_of_lt_of_le hbb HB1.out.size
      obtain ⟨n0, n1⟩ := (HCN.out.below HB1.out hbb1).c2
      have b1z := Nat.lt_of_lt_of_le hbb1 HB1.out.size
      obtain ⟨m0, m1⟩ := (HCM.out.below HB1.out hbb1).c2
      clear f0 ff fz
      have f0 := boolBox HF1.out HFC.out
      have ff := HF1.out.frozen
      have fz := HF1.out.lt
      go_wp2_with fail
      have HB8 := Lib.hid (HB1.out.setCell (p := ⟨w.heap.size + 1, kf, none⟩) (by simp) (.bool true))
      have HX8 := Lib.hid (HX1.out.other (a := ⟨w.heap.size + 1, kf, none⟩) (.bool true) (by simp))
      have HF8 := Lib.hid (HF1.out.set kf (.bool true))
      have HS8 := Lib.hid (HS1.out.other (a := ⟨w.heap.size + 1, kf, none⟩) (.bool true) (by dsimp only; omega))
      clear X0 X1 Xf Xz S0 S1 S2 Sf Sz t0 t1 t2 bz n0 n1 b1z m0 m1 f0 ff fz
      obtain ⟨W8, hW8⟩ : ∃ W, w1.setCell ⟨w.heap.size + 1, kf, none⟩ (.bool true) = W := ⟨_, rfl⟩
      rw [hW8] at HB8 HX8 HF8 HS8 ⊢
      clear hW8
      have X0 := HX8.out.cell 0
      have X1 := HX8.out.cell 1
      have Xf := HX8.out.frozen
      have Xz := HX8.out.lt
      have S0 := HS8.out.cell 0
      have S1 := HS8.out.cell 1
      have S2 := HS8.out.cell 2
      have Sf := HS8.out.frozen
      have Sz := HS8.out.lt
      simp only [List.getElem?_cons_zero, List.getElem?_cons_succ] at X0 X1 S0 S1 S2
      obtain ⟨t0, t1, t2⟩ := (HCT.out.below HB8.out hbb).c3
      have bz := Nat.lt_of_lt_of_le hbb HB8.out.size
      obtain ⟨n0, n1⟩ := (HCN.out.below HB8.out hbb1).c2
      have b1z := Nat.lt_of_lt_of_le hbb1 HB8.out.size
      obtain ⟨m0, m1⟩ := (HCM.out.below HB8.out hbb1).c2
      have HK := Lib.hid (fun s t (X : Later W8) => HK96.out s t _ (HB8.out.trans (X.h.mono HB8.out.size)))
      refine wp_region_later (by kernel_rfl) (by kernel_rfl) ?_
      repeat go_big_quiet_step ((go_at_call 37; exact Calls.later (HK.out _ _ _)))
      refine wpQuiet_nil ?_
      rintro w9 ⟨⟨_, hb⟩, rfl⟩
      have HF9 := Lib.hid (HF8.out.later hb)
      have HB9 := Lib.hid (HB8.out.trans (hb.mono HB8.out.size))
      have HX9 := Lib.hid (HX8.out.later hb)
      have HS9 := Lib.hid (HS8.out.later hb)
      clear hb X0 X1 Xf Xz S0 S1 S2 Sf Sz t0 t1 t2 bz n0 n1 b1z m0 m1
      have X0 := HX9.out.cell 0
      have X1 := HX9.out.cell 1
      have Xf := HX9.out.frozen
      have Xz := HX9.out.lt
      have S0 := HS9.out.cell 0
      have S1 := HS9.out.cell 1
      have S2 := HS9.out.cell 2
      have Sf := HS9.out.frozen
      have Sz := HS9.out.lt
      simp only [List.getElem?_cons_zero, List.getElem?_cons_succ] at X0 X1 S0 S1 S2
      obtain ⟨t0, t1, t2⟩ := (HCT.out.below HB9.out hbb).c3
      have bz := Nat.lt_of_lt_of_le hbb HB9.out.size
      obtain ⟨n0, n1⟩ := (HCN.out.below HB9.out hbb1).c2
      have b1z := Nat.lt_of_lt_of_le hbb1 HB9.out.size
      obtain ⟨m0, m1⟩ := (HCM.out.below HB9.out hbb1).c2
      have hkm := HKM.out
      have hkk := HKN.out
      have hge := HGE.out
      have hgke := HGKE.out
      have hgq := HGQ.out
      have hgq2 := bne_of hgq
      cases km with
      | false =>
        cases kk with
        | false =>
          go_wp2_with fail
          go_quiet (fail)
          go_wp2_with fail
          go_roundw
          case rel =>
            refine ⟨k + 1, by omega, by go_num, below_drewN HB9.out _, HX9.out.later (below_drewN (Below.refl _ _) _), ⟨fl.set kf true, ?_, fun x hx => ?_⟩, fun i hi => (Nat.lt_succ_iff_lt_or_eq.1 hi).elim (HOK.out i) (fun h => by rw [h]; exact HVD.out.trans rfl)⟩
            · rw [List.map_set]; exact HF9.out.later (below_drewN (Below.refl _ _) _)
            · exact fed_set (HFV.out x hx) (HFN.out x)
          case measure => simp [intOf]; omega
        | true =>
        cases gke with
        | true =>
          have gke0 := empty_of hgke
          go_wp2_with fail
          go_quiet (fail)
          go_wp2_with fail
          have HV := Lib.hid (HNO.out (HVD.out.trans rfl))
          go_ret
          exact ⟨by rw [HV.out]; rfl, below_drewN HB9.out _⟩
        | false =>
        go_wp2_with fail
        go_quiet (fail)
        go_wp2_with fail
        go_roundw
        case rel =>
          refine ⟨k + 1, by omega, by go_num, below_drewN HB9.out _, HX9.out.later (below_drewN (Below.refl _ _) _), ⟨fl.set kf true, ?_, fun x hx => ?_⟩, fun i hi => (Nat.lt_succ_iff_lt_or_eq.1 hi).elim (HOK.out i) (fun h => by rw [h]; exact HVD.out.trans rfl)⟩
          · rw [List.map_set]; exact HF9.out.later (below_drewN (Below.refl _ _) _)
          · exact fed_set (HFV.out x hx) (HFN.out x)
        case measure => simp [intOf]; omega
      | true =>
      cases ge with
      | true =>
        have ge0 := empty_of hge
        go_wp2_with fail
        go_quiet (fail)
        go_wp2_with fail
        have HV := Lib.hid (HNO.out (HVD.out.trans rfl))
        go_ret
        exact ⟨by rw [HV.out]; rfl, below_drewN HB9.out _⟩
      | false =>
      cases kk with
      | false =>
        go_wp2_with fail
        go_quiet (fail)
        go_wp2_with fail
        go_roundw
        case rel =>
          refine ⟨k + 1, by omega, by go_num, below_drewN HB9.out _, HX9.out.later (below_drewN (Below.refl _ _) _), ⟨fl.set kf true, ?_, fun x hx => ?_⟩, fun i hi => (Nat.lt_succ_iff_lt_or_eq.1 hi).elim (HOK.out i) (fun h => by rw [h]; exact HVD.out.trans rfl)⟩
          · rw [List.map_set]; exact HF9.out.later (below_drewN (Below.refl _ _) _)
          · exact fed_set (HFV.out x hx) (HFN.out x)
        case measure => simp [intOf]; omega
      | true =>
      cases gke with
      | true =>
        have gke0 := empty_of hgke
        go_wp2_with fail
        go_quiet (fail)
        go_wp2_with fail
        have HV := Lib.hid (HNO.out (HVD.out.trans rfl))
        go_ret
        exact ⟨by rw [HV.out]; rfl, below_drewN HB9.out _⟩
      | false =>
      cases gq with
      | true =>
        go_wp2_with fail
        go_quiet (fail)
        go_wp2_with fail
        go_roundw
        case rel =>
          refine ⟨k + 1, by omega, by go_num, below_drewN HB9.out _, HX9.out.later (below_drewN (Below.refl _ _) _), ⟨fl.set kf true, ?_, fun x hx => ?_⟩, fun i hi => (Nat.lt_succ_iff_lt_or_eq.1 hi).elim (HOK.out i) (fun h => by rw [h]; exact HVD.out.trans rfl)⟩
          · rw [List.map_set]; exact HF9.out.later (below_drewN (Below.refl _ _) _)
          · exact fed_set (HFV.out x hx) (HFN.out x)
        case measure => simp [intOf]; omega
      | false =>
      go_wp2_with fail
      go_quiet (fail)
      go_wp2_with fail
      have HV := Lib.hid (HNO.out (HVD.out.trans rfl))
      go_ret
      exact ⟨by rw [HV.out]; rfl, below_drewN HB9.out _⟩
    | true =>
    cases rk with
    | false =>
      go_wp2_with fail
      refine (HK84.out _ HB.out).mono ?_
      rintro e1 w1 ⟨rfl, hb⟩
      have HF1 := Lib.hid (HF.out.later hb)
      have HB1 := Lib.hid (HB.out.trans (hb.mono HB.out.size))
      have HX1 := Lib.hid (HX.out.later hb)
      have HS1 := Lib.hid (HS.out.later hb)
      clear hb X0 X1 Xf Xz S0 S1 S2 Sf Sz t0 t1 t2 bz n0 n1 b1z m0 m1
      have X0 := HX1.out.cell 0
      have X1 := HX1.out.cell 1
      have Xf := HX1.out.frozen
      have Xz := HX1.out.lt
      have S0 := HS1.out.cell 0
      have S1 := HS1.out.cell 1
      have S2 := HS1.out.cell 2
      have Sf := HS1.out.frozen
      have Sz := HS1.out.lt
      simp only [List.getElem?_cons_zero, List.getElem?_cons_succ] at X0 X1 S0 S1 S2
      obtain ⟨t0, t1, t2⟩ := (HCT.out.below HB1.out hbb).c3
      have bz := Nat.lt_of_lt_of_le hbb HB1.out.size
      obtain ⟨n0, n1⟩ := (HCN.out.below HB1.out hbb1).c2
      have b1z := Nat.lt_of_lt_of_le hbb1 HB1.out.size
      obtain ⟨m0, m1⟩ := (HCM.out.below HB1.out hbb1).c2
      clear f0 ff fz
      have f0 := boolBox HF1.out HFC.out
      have ff := HF1.out.frozen
      have fz := HF1.out.lt
      have HV := Lib.hid (HNO.out (HVD.out.trans rfl))
      go_wp2_with fail
      go_ret
      exact ⟨by rw [HV.out]; rfl, HB1.out⟩
    | true =>
    go_wp2_with fail
    refine (HK84.out _ HB.out).mono ?_
    rintro e1 w1 ⟨rfl, hb⟩
    have HF1 := Lib.hid (HF.out.later hb)
    have HB1 := Lib.hid (HB.out.trans (hb.mono HB.out.size))
    have HX1 := Lib.hid (HX.out.later hb)
    have HS1 := Lib.hid (HS.out.later hb)
    clear hb X0 X1 Xf Xz S0 S1 S2 Sf Sz t0 t1 t2 bz n0 n1 b1z m0 m1
    have X0 := HX1.out.cell 0
    have X1 := HX1.out.cell 1
    have Xf := HX1.out.frozen
    have Xz := HX1.out.lt
    have S0 := HS1.out.cell 0
    have S1 := HS1.out.cell 1
    have S2 := HS1.out.cell 2
    have Sf := HS1.out.frozen
    have Sz := HS1.out.lt
    simp only [List.getElem?_cons_zero, List.getElem?_cons_succ] at X0 X1 S0 S1 S2
    obtain ⟨t0, t1, t2⟩ := (HCT.out.below HB1.out hbb).c3
    have bz := Nat.lt_of_lt_of_le hbb HB1.out.size
    obtain ⟨n0, n1⟩ := (HCN.out.below HB1.out hbb1).c2
    have b1z := Nat.lt_of_lt_of_le hbb1 HB1.out.size
    obtain ⟨m0, m1⟩ := (HCM.out.below HB1.out hbb1).c2
    clear f0 ff fz
    have f0 := boolBox HF1.out HFC.out
    have ff := HF1.out.frozen
    have fz := HF1.out.lt
    go_wp2_with fail
    have HB8 := Lib.hid (HB1.out.setCell (p := ⟨w.heap.size + 1, kf, none⟩) (by simp) (.bool true))
    have HX8 := Lib.hid (HX1.out.other (a := ⟨w.heap.size + 1, kf, none⟩) (.bool true) (by simp))
    have HF8 := Lib.hid (HF1.out.set kf (.bool true))
    have HS8 := Lib.hid (HS1.out.other (a := ⟨w.heap.size + 1, kf, none⟩) (.bool true) (by dsimp only; omega))
    clear X0 X1 Xf Xz S0 S1 S2 Sf Sz t0 t1 t2 bz n0 n1 b1z m0 m1 f0 ff fz
    obtain ⟨W8, hW8⟩ : ∃ W, w1.setCell ⟨w.heap.size + 1, kf, none⟩ (.bool true) = W := ⟨_, rfl⟩
    rw [hW8] at HB8 HX8 HF8 HS8 ⊢
    clear hW8
    have X0 := HX8.out.cell 0
    have X1 := HX8.out.cell 1
    have Xf := HX8.out.frozen
    have Xz := HX8.out.lt
    have S0 := HS8.out.cell 0
    have S1 := HS8.out.cell 1
    have S2 := HS8.out.cell 2
    have Sf := HS8.out.frozen
    have Sz := HS8.out.lt
    simp only [List.getElem?_cons_zero, List.getElem?_cons_succ] at X0 X1 S0 S1 S2
    obtain ⟨t0, t1, t2⟩ := (HCT.out.below HB8.out hbb).c3
    have bz := Nat.lt_of_lt_of_le hbb HB8.out.size
    obtain ⟨n0, n1⟩ := (HCN.out.below HB8.out hbb1).c2
    have b1z := Nat.lt_of_lt_of_le hbb1 HB8.out.size
    obtain ⟨m0, m1⟩ := (HCM.out.below HB8.out hbb1).c2
    have HK := Lib.hid (fun s t (X : Later W8) => HK96.out s t _ (HB8.out.trans (X.h.mono HB8.out.size)))
    refine wp_region_later (by kernel_rfl) (by kernel_rfl) ?_
    repeat go_big_quiet_step ((go_at_call 37; exact Calls.later (HK.out _ _ _)))
    refine wpQuiet_nil ?_
    rintro w9 ⟨⟨_, hb⟩, rfl⟩
    have HF9 := Lib.hid (HF8.out.later hb)
    have HB9 := Lib.hid (HB8.out.trans (hb.mono HB8.out.size))
    have HX9 := Lib.hid (HX8.out.later hb)
    have HS9 := Lib.hid (HS8.out.later hb)
    clear hb X0 X1 Xf Xz S0 S1 S2 Sf Sz t0 t1 t2 bz n0 n1 b1z m0 m1
    have X0 := HX9.out.cell 0
    have X1 := HX9.out.cell 1
    have Xf := HX9.out.frozen
    have Xz := HX9.out.lt
    have S0 := HS9.out.cell 0
    have S1 := HS9.out.cell 1
    have S2 := HS9.out.cell 2
    have Sf := HS9.out.frozen
    have Sz := HS9.out.lt
    simp only [List.getElem?_cons_zero, List.getElem?_cons_succ] at X0 X1 S0 S1 S2
    obtain ⟨t0, t1, t2⟩ := (HCT.out.below HB9.out hbb).c3
    have bz := Nat.lt_of_lt_of_le hbb HB9.out.size
    obtain ⟨n0, n1⟩ := (HCN.out.below HB9.out hbb1).c2
    have b1z := Nat.lt_of_lt_of_le hbb1 HB9.out.size
    obtain ⟨m0, m1⟩ := (HCM.out.below HB9.out hbb1).c2
    have hkm := HKM.out
    have hkk := HKN.out
    have hge := HGE.out
    have hgke := HGKE.out
    have hgq := HGQ.out
    have hgq2 := bne_of hgq
    cases km with
    | false =>
      cases kk with
      | false =>
        go_wp2_with fail
        go_quiet (fail)
        go_wp2_with fail
        go_roundw
        case rel =>
          refine ⟨k + 1, by omega, by go_num, below_drewN HB9.out _, HX9.out.later (below_drewN (Below.refl _ _) _), ⟨fl.set kf true, ?_, fun x hx => ?_⟩, fun i hi => (Nat.lt_succ_iff_lt_or_eq.1 hi).elim (HOK.out i) (fun h => by rw [h]; exact HVD.out.trans rfl)⟩
          · rw [List.map_set]; exact HF9.out.later (below_drewN (Below.refl _ _) _)
          · exact fed_set (HFV.out x hx) (HFN.out x)
        case measure => simp [intOf]; omega
      | true =>
      cases gke with
      | true =>
        have gke0 := empty_of hgke
        go_wp2_with fail
        go_quiet (fail)
        go_wp2_with fail
        have HV := Lib.hid (HNO.out (HVD.out.trans rfl))
        go_ret
        exact ⟨by rw [HV.out]; rfl, below_drewN HB9.out _⟩
      | false =>
      go_wp2_with fail
      go_quiet (fail)
      go_wp2_with fail
      go_roundw
      case rel =>
        refine ⟨k + 1, by omega, by go_num, below_drewN HB9.out _, HX9.out.later (below_drewN (Below.refl _ _) _), ⟨fl.set kf true, ?_, fun x hx => ?_⟩, fun i hi => (Nat.lt_succ_iff_lt_or_eq.1 hi).elim (HOK.out i) (fun h => by rw [h]; exact HVD.out.trans rfl)⟩
        · rw [List.map_set]; exact HF9.out.later (below_drewN (Below.refl _ _) _)
        · exact fed_set (HFV.out x hx) (HFN.out x)
      case measure => simp [intOf]; omega
    | true =>
    cases ge with
    | true =>
      have ge0 := empty_of hge
      go_wp2_with fail
      go_quiet (fail)
      go_wp2_with fail
      have HV := Lib.hid (HNO.out (HVD.out.trans rfl))
      go_ret
      exact ⟨by rw [HV.out]; rfl, below_drewN HB9.out _⟩
    | false =>
    cases kk with
    | false =>
      go_wp2_with fail
      go_quiet (fail)
      go_wp2_with fail
      go_roundw
      case rel =>
        refine ⟨k + 1, by omega, by go_num, below_drewN HB9.out _, HX9.out.later (below_drewN (Below.refl _ _) _), ⟨fl.set kf true, ?_, fun x hx => ?_⟩, fun i hi => (Nat.lt_succ_iff_lt_or_eq.1 hi).elim (HOK.out i) (fun h => by rw [h]; exact HVD.out.trans rfl)⟩
        · rw [List.map_set]; exact HF9.out.later (below_drewN (Below.refl _ _) _)
        · exact fed_set (HFV.out x hx) (HFN.out x)
      case measure => simp [intOf]; omega
    | true =>
    cases gke with
    | true =>
      have gke0 := empty_of hgke
      go_wp2_with fail
      go_quiet (fail)
      go_wp2_with fail
      have HV := Lib.hid (HNO.out (HVD.out.trans rfl))
      go_ret
      exact ⟨by rw [HV.out]; rfl, below_drewN HB9.out _⟩
    | false =>
    cases gq with
    | true =>
      go_wp2_with fail
      go_quiet (fail)
      go_wp2_with fail
      go_roundw
      case rel =>
        refine ⟨k + 1, by omega, by go_num, below_drewN HB9.out _, HX9.out.later (below_drewN (Below.refl _ _) _), ⟨fl.set kf true, ?_, fun x hx => ?_⟩, fun i hi => (Nat.lt_succ_iff_lt_or_eq.1 hi).elim (HOK.out i) (fun h => by rw [h]; exact HVD.out.trans rfl)⟩
        · rw [List.map_set]; exact HF9.out.later (below_drewN (Below.refl _ _) _)
        · exact fed_set (HFV.out x hx) (HFN.out x)
      case measure => simp [intOf]; omega
    | false =>
    go_wp2_with fail
    go_quiet (fail)
    go_wp2_with fail
    have HV := Lib.hid (HNO.out (HVD.out.trans rfl))
    go_ret
    exact ⟨by rw [HV.out]; rfl, below_drewN HB9.out _⟩
end Go.Proofs.YtpafjhjpchdcdaaGreatDoor
