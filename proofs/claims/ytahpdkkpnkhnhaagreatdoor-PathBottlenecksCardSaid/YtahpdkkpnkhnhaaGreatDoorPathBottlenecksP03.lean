/- Lemmas on the way to the law PathBottlenecks (part 3): Pb Na Sa Pd Rf Rg -/
import Derived.Test.YtahpdkkpnkhnhaaGreatDoorPathBottlenecksP01
import Derived.Test.YtahpdkkpnkhnhaaGreatDoorPathBottlenecksP02
import Derived.Test.YtahpdkkpnkhnhaaGreatDoorBA16
import Derived.Test.YtahpdkkpnkhnhaaGreatDoorBA29
import Derived.Test.YtahpdkkpnkhnhaaGreatDoorBA02
set_option linter.unusedVariables false
set_option linter.unusedSimpArgs false

/- Walks: Shortest of the reference. -/
namespace Go.Proofs.YtahpdkkpnkhnhaaGreatDoor
open Go Go.Proofs Go.RowKit Go.Shelf
structure BfM (W1 wr : World) (n : Nat) (p : Pl) (bl : List Int) (to fr : Int) (T : List Int) : Prop where
  o : Own encI 1 3 wr W1.heap.size (.slice (some ⟨W1.heap.size, 0, none⟩) n n) T
  b : BfR p bl to fr T
  l : T.length = n
  w : Below W1.heap.size W1 wr
theorem BfM.cell {W1 wr : World} {n : Nat} {p : Pl} {bl : List Int} {to fr : Int} {T : List Int} (h : BfM W1 wr n p bl to fr T) {x : Nat} (hx : x < n) : wr.cell? ⟨W1.heap.size, x, none⟩ = some (.int .i64 (T.getD x 0)) := by
  have h1 := (h.o.atN h.l encI_len x (by rw [h.l]; exact hx)).c1
  rw [Nat.mul_one] at h1
  rw [h1, List.getD_eq_getElem?_getD, List.getElem?_eq_getElem (by rw [h.l]; exact hx)]
  rfl
theorem BfM.drew {W1 wr : World} {n : Nat} {p : Pl} {bl : List Int} {to fr : Int} {T : List Int} (h : BfM W1 wr n p bl to fr T) (q : Nat) : BfM W1 (wr.drewN q) n p bl to fr T := ⟨h.o.drewN q, h.b, h.l, below_drewN h.w q⟩
theorem ShR.bad {p : Pl} {bl : List Int} {fr to : Int} (h : badR p bl fr to = true) : ShR p bl fr to (-1) := ⟨fun _ => rfl, fun h' => by rw [h] at h'; cases h'⟩
theorem cls_next {p : Pl} {bl : List Int} {to : Int} {T : List Int} {k : Nat} {q : Bool} (hk : k < p.arcs.length) (h : q = false → ClsB p bl to T k) (hn : StepR p bl to p.arcs[k].fr p.arcs[k].to → 0 ≤ T.getD p.arcs[k].fr.toNat 0 → 0 ≤ T.getD p.arcs[k].to.toNat 0 ∧ T.getD p.arcs[k].to.toNat 0 ≤ T.getD p.arcs[k].fr.toNat 0 + tAt p p.arcs[k].to) : q = false → ClsB p bl to T (k + 1) := by
  intro hq i hi hik
  rcases Nat.lt_succ_iff_lt_or_eq.1 hik with h1 | h1
  · exact h hq i hi h1
  · subst h1; exact hn
theorem cls_zero (p : Pl) (bl : List Int) (to : Int) (T : List Int) : ClsB p bl to T 0 := fun i _ hi => absurd hi (Nat.not_lt_zero _)
set_option maxRecDepth 100000 in
set_option maxHeartbeats 4000000 in
theorem shortest21 (w : World) (v1 v2 vb : Value) (p : Pl) (bl : List Int) (fr to : Int) (hv : PlR w w.heap.size v1 v2 p) (hbl : Sl encI 1 w w.heap.size vb bl) (hok : OkP p) (hfr : inN p.ms.length fr = true) (hto : inN p.ms.length to = true) :
    Calls Tryz.prog 21 #[.agg #[v1, v2], .int .i64 fr, .int .i64 to, vb] w (fun e w' => ∃ v, e = .returned (.int .i64 v) ∧ ShR p bl fr to v ∧ Below w.heap.size w w') := by
  obtain ⟨fr, rfl, hfn⟩ := inN_nat hfr
  obtain ⟨to, rfl, htn⟩ := inN_nat hto
  clear hfr hto
  obtain ⟨Q, hQ⟩ : ∃ Q : Ending → World → Prop, (fun (e : Ending) (w' : World) => ∃ v, e = .returned (.int .i64 v) ∧ ShR p bl fr to v ∧ Below w.heap.size w w') = Q := ⟨_, rfl⟩
  rw [hQ]
  have HQ : Hid (∀ v w', ShR p bl fr to v → Below w.heap.size w w' → Q (.returned (.int .i64 v)) w') := Lib.hid (fun v w' h1 h2 => by rw [← hQ]; exact ⟨v, rfl, h1, h2⟩)
  clear hQ
  have HI1 := Lib.hid (fun (w1 : World) (hb : Below w.heap.size w w1) => in24 vb bl fr w1 (hbl.later hb))
  have HI2 := Lib.hid (fun (w1 : World) (hb : Below w.heap.size w w1) => in24 vb bl to w1 (hbl.later hb))
  have HIN := Lib.hid (fun (x : Int) (w1 : World) (hb : Below w.heap.size w w1) => in24 vb bl x w1 (hbl.later hb))
  obtain ⟨ab, nb, cb, rfl⟩ : ∃ a n c, vb = .slice a n c := by obtain ⟨a, c, e, _⟩ := hbl; exact ⟨a, _, c, e⟩
  obtain ⟨⟨a1, n1, rfl, ⟨h11, _⟩, hA1⟩, ⟨a2, n2, rfl, ⟨h21, _⟩, hA2⟩⟩ := hv
  obtain ⟨b1, off1, rfl, hbb1, hat⟩ := hA1 hok.pos
  have HAT := Lib.hid hat
  have HA2 := Lib.hid hA2
  have HOK := Lib.hid hok
  have hn64 := hok.le
  have hm256 := hok.ale
  have HFK := Lib.hid (isFirst86 p.ms[fr].kind)
  have HTK := Lib.hid (isLast87 p.ms[to].kind)
  have HCF := Lib.hid (hat fr hfn)
  have HCT := Lib.hid (hat to htn)
  have HTF := Lib.hid (tAt_nat hfn)
  have hBAD : badR p bl fr to = ((fr : Int) == (to : Int) || !bgB p.ms[fr].kind || !enB p.ms[to].kind || bl.contains (fr : Int) || bl.contains (to : Int)) := by
    unfold badR; rw [kdA_nat hfn, kdA_nat htn]
  have HFN : Hid (∃ k : Nat, (fr : Int) = k ∧ k < p.ms.length) := Lib.hid ⟨fr, rfl, hfn⟩
  have HTN : Hid (∃ k : Nat, (to : Int) = k ∧ k < p.ms.length) := Lib.hid ⟨to, rfl, htn⟩
  have HSM := Lib.hid (fun (hb : badR p bl fr to = false) (m x : Int) (hs : StepR p bl to m x) => step_ne hb hs)
  clear hat hA1 hA2 hbl hok
  generalize p.ms[fr] = mf at *
  generalize p.ms[to] = mt at *
  obtain ⟨kf, tf⟩ := mf
  obtain ⟨kt, tt⟩ := mt
  dsimp only at HFK HTK hBAD HTF
  obtain ⟨n, hn⟩ : ∃ n, p.ms.length = n := ⟨_, rfl⟩
  obtain ⟨m, hm⟩ : ∃ n, p.arcs.length = n := ⟨_, rfl⟩
  have HN := Lib.hid hn
  have HM := Lib.hid hm
  have HB := Lib.hid ((Below.refl w.heap.size w).alloc (Nat.le_refl _) (.cells #[.slice (some ⟨b1, off1, none⟩) n n1, .slice a2 m n2] 25))
  have HX := Lib.hid (Box.new w #[.slice (some ⟨b1, off1, none⟩) n n1, .slice a2 m n2] 25)
  rw [hn] at hfn htn hn64 h11 ⊢
  rw [hm] at hm256 h21 ⊢
  clear hn hm
  obtain ⟨A1, hA1⟩ : ∃ b, ((fr : Int) == (to : Int)) = b := ⟨_, rfl⟩
  obtain ⟨A2, hA2⟩ : ∃ b, bgB kf = b := ⟨_, rfl⟩
  obtain ⟨A3, hA3⟩ : ∃ b, enB kt = b := ⟨_, rfl⟩
  obtain ⟨A4, hA4⟩ : ∃ b, bl.contains (fr : Int) = b := ⟨_, rfl⟩
  obtain ⟨A5, hA5⟩ : ∃ b, bl.contains (to : Int) = b := ⟨_, rfl⟩
  rw [hA2] at HFK
  rw [hA3] at HTK
  rw [hA4] at HI1
  rw [hA5] at HI2
  rw [hA1, hA2, hA3, hA4, hA5] at hBAD
  have HBAD := Lib.hid hBAD
  clear hBAD hA2 hA3 hA4 hA5
  obtain ⟨W1, hW1⟩ : ∃ W, w.alloc (.cells #[.slice (some ⟨b1, off1, none⟩) n n1, .slice a2 m n2] 25) = W := ⟨_, rfl⟩
  rw [hW1] at HB HX
  obtain ⟨x0, x1, xf, xz⟩ := HX.out.v2
  obtain ⟨f0, f1⟩ := ((HCF.out).below HB.out hbb1).c2
  obtain ⟨t0, t1⟩ := ((HCT.out).below HB.out hbb1).c2
  have hb1z : b1 < W1.heap.size := by have := HB.out.size; omega
  go_enter Tryz.func21, Tryz.ntmps21
  cases A1 with
  | true =>
    go_wp2_with fail
    try rw [hW1]
    exact HQ.out _ _ (ShR.bad HBAD.out) HB.out
  | false =>
  go_wp2_with fail
  refine (HFK.out _).mono ?_
  rintro e _ ⟨rfl, rfl⟩
  cases A2 with
  | false =>
    go_wp2_with fail
    exact HQ.out _ _ (ShR.bad HBAD.out) HB.out
  | true =>
  go_wp2_with fail
  refine (HTK.out _).mono ?_
  rintro e _ ⟨rfl, rfl⟩
  cases A3 with
  | false =>
    go_wp2_with fail
    exact HQ.out _ _ (ShR.bad HBAD.out) HB.out
  | true =>
  go_wp2_with fail
  refine (HI1.out _ HB.out).mono ?_
  rintro e _ ⟨rfl, rfl⟩
  cases A4 with
  | true =>
    go_wp2_with fail
    exact HQ.out _ _ (ShR.bad HBAD.out) HB.out
  | false =>
  go_wp2_with fail
  refine (HI2.out _ HB.out).mono ?_
  rintro e _ ⟨rfl, rfl⟩
  cases A5 with
  | true =>
    go_wp2_with fail
    exact HQ.out _ _ (ShR.bad HBAD.out) HB.out
  | false =>
  have HBD := Lib.hid (show badR p bl fr to = false from HBAD.out)
  have HSM2 := Lib.hid (HSM.out HBAD.out)
  clear HBAD HSM hW1 HI1 HI2 HFK HTK
  have HT : Hid (Tryz.prog.underlying 26 = some (.slice 3)) := Lib.hid Tryz.underlying26
  have HI := Lib.hid infoI
  have hx2 := HB.out.size
  go_wp2_with (at_make; refine wpList_mk1 encI 0 (.int .i64 0) rfl 26 3 8 HT.out HI.out (by rfl) (by omega) W1.heap.size _ n (by omega) (Nat.le_refl _) rfl _ _ rfl .i64 .i64 rfl rfl ?_; intro w3 hown hgr; have HO3 := Lib.hid hown; have HG3 := Lib.hid (grown_none_below hgr); clear hown hgr)
  clear x0 x1 xf xz f0 f1 t0 t1 hb1z
  obtain ⟨G, hG⟩ : ∃ G, W1.heap.size = G := ⟨_, rfl⟩
  have HGE := Lib.hid hG
  have HFR := Lib.hid (BfR.start (bl := bl) (to := (to : Int)) HOK.out HFN.out)
  have HFE := Lib.hid (show (List.replicate p.ms.length (-1 : Int)).set ((fr : Int)).toNat (tAt p fr) = (List.replicate n (-1)).set fr tf by rw [HN.out, HTF.out, Int.toNat_natCast])
  rw [HFE.out] at HFR
  rw [hG] at HO3 ⊢
  clear hG
  go_loopw [10] (fun i wr => ∃ k : Nat, k ≤ n ∧ i = .int .i64 k ∧ Own encI 1 3 wr G (.slice (some ⟨G, 0, none⟩) n n) (List.replicate k (-1) ++ List.replicate (n - k) 0) ∧ Below W1.heap.size W1 wr) (fun i _ => n - (intOf i).toNat)
  case atStart => exact ⟨0, by omega, rfl, by simpa using HO3.out, HG3.out⟩
  case round =>
    clear HO3 HG3
    obtain ⟨k, hk, rfl, ho, hbe⟩ := hrel
    have HO := Lib.hid ho
    have HBE := Lib.hid hbe
    by_cases hlt : k < n
    · have oz := ho.ltN.2
      have of0 := ho.frozenN (by simp; omega)
      have hat := ho.atN (by simp; omega) encI_len k (by simp; omega)
      have o0 := hat.c1
      rw [Nat.mul_one] at o0
      have HS := Lib.hid (ho.setN (by simp; omega) encI_len k (by simp; omega) 0 (by omega) (.int .i64 (-1)) (-1) (by rfl))
      clear ho hbe hat
      go_wp2_with fail
      go_roundw
      case rel => exact ⟨k + 1, by omega, by go_num, by have h := HS.out; rw [fillI (-1) n k hlt, Nat.mul_one, Nat.add_zero] at h; exact h, HBE.out.setCell (by rw [HGE.out]; exact Nat.le_refl _) _⟩
      case measure => simp [intOf]; omega
    obtain rfl : n = k := by omega
    rw [Nat.sub_self, List.replicate_zero, List.append_nil] at ho
    have oz := ho.ltN.2
    have of0 := ho.frozenN (by simp)
    have o0 := (ho.atN (by simp) encI_len fr (by simp; omega)).c1
    rw [Nat.mul_one, List.getElem_replicate] at o0
    have HS := ho.setN (by simp) encI_len fr (by simp; omega) 0 (by omega) (.int .i64 tf) tf (by rfl)
    rw [Nat.mul_one, Nat.add_zero] at HS
    have hfn' : (fr : Int) < (n : Int) := by omega
    obtain ⟨x0, x1, xf, xz⟩ := (HX.out.later hbe).v2
    obtain ⟨f0, f1⟩ := (HCF.out.below (HB.out.trans (hbe.mono HB.out.size)) hbb1).c2
    have hb1z : b1 < wr.heap.size := Nat.lt_of_lt_of_le hbb1 (Nat.le_trans HB.out.size hbe.size)
    have HM4 : Hid (BfM W1 (wr.setCell ⟨G, fr, none⟩ (.int .i64 tf)) n p bl to fr ((List.replicate n (-1)).set fr tf)) := Lib.hid ⟨by rw [HGE.out]; exact HS, HFR.out, by simp, hbe.setCell (by rw [HGE.out]; exact Nat.le_refl _) _⟩
    clear HO HS ho hbe HBE
    go_wp2_with fail
    obtain ⟨W4, hW4⟩ : ∃ W, wr.setCell ⟨G, fr, none⟩ (.int .i64 tf) = W := ⟨_, rfl⟩
    rw [hW4] at HM4 ⊢
    clear hW4 o0 of0 oz x0 x1 xf xz f0 f1 hb1z
    go_loopw [11] (fun mo wr => ∃ q T, mo = .bool q ∧ BfM W1 wr n p bl to fr T ∧ (q = false → ClsB p bl to T m)) (fun mo wr => leastN fun z => ∃ q T, mo = .bool q ∧ BfM W1 wr n p bl to fr T ∧ (q = false → ClsB p bl to T m) ∧ 2 * msB T + (if q then 1 else 0) = z)
    case atStart => exact ⟨true, _, rfl, HM4.out, fun h => by cases h⟩
    case round =>
      clear HM4
      obtain ⟨⟨q, T, hq, hmm, hcl, hms⟩, _⟩ := leastN_spec (p := fun z => ∃ q T, _ = Value.bool q ∧ BfM W1 _ n p bl to fr T ∧ (q = false → ClsB p bl to T m) ∧ 2 * msB T + (if q then 1 else 0) = z) (by obtain ⟨q, T, h1, h2, h3⟩ := hrel; exact ⟨_, q, T, h1, h2, h3, rfl⟩)
      subst hq
      have HMM := Lib.hid hmm
      have HMS := Lib.hid hms
      have HCL := Lib.hid hcl
      clear hmm hms hcl hrel
      cases q with
      | false =>
        have HV := Lib.hid (HMM.out.b.done HOK.out (by rw [HM.out]; exact HCL.out rfl) HBD.out HFN.out HTN.out)
        rw [Int.toNat_natCast] at HV
        have o0 := HMM.out.cell (x := to) htn
        have oz := HMM.out.o.ltN.2
        have htn' : (to : Int) < (n : Int) := by omega
        rw [HGE.out] at o0 oz
        have HBE := Lib.hid HMM.out.w
        generalize T.getD to 0 = tv at *
        clear HMM HMS
        go_wp2_with fail
        exact HQ.out _ _ HV.out (HB.out.trans (HBE.out.mono HB.out.size))
      | true =>
        generalize wr = W5 at *
        go_wp2_with fail
        go_loopw [11, 12] (fun mo i wr => ∃ (k : Nat) (q : Bool) (T' : List Int), k ≤ m ∧ i = .int .i64 k ∧ mo = .bool q ∧ BfM W1 wr n p bl to fr T' ∧ (q = false → ClsB p bl to T' k) ∧ msB T' + (if q then 1 else 0) ≤ msB T) (fun _ i _ => m - (intOf i).toNat)
        case atStart => exact ⟨0, false, T, by omega, rfl, rfl, HMM.out, fun _ => cls_zero _ _ _ _, by simp⟩
        case round =>
          clear HMM HCL
          obtain ⟨k, q, T', hk, rfl, rfl, hmm, hcl, hct⟩ := hrel
          have HMM := Lib.hid hmm
          have HCL := Lib.hid hcl
          have HCT := Lib.hid hct
          obtain ⟨x0, x1, xf, xz⟩ := (HX.out.later hmm.w).v2
          clear hmm hcl hct
          by_cases hltk : k < m
          rotate_left
          · obtain rfl : m = k := by omega
            have HZ := Lib.hid (show 2 * msB T' + (if q then 1 else 0) < leastN fun z => ∃ q T, (Value.bool true) = Value.bool q ∧ BfM W1 W5 n p bl to fr T ∧ (q = false → ClsB p bl to T m) ∧ 2 * msB T + (if q then 1 else 0) = z by
              rw [← HMS.out]
              have := HCT.out
              cases q <;> simp at this ⊢ <;> omega)
            go_wp2_with fail
            go_roundw
            case rel => exact ⟨q, T', rfl, HMM.out, HCL.out⟩
            case measure => exact leastN_lt ⟨q, T', rfl, HMM.out, HCL.out, rfl⟩ HZ.out
          obtain ⟨b2, off2, rfl, hbb2, hc2⟩ := HA2.out (by rw [HM.out]; omega)
          have hkm : k < p.arcs.length := by rw [HM.out]; exact hltk
          have HBX := Lib.hid (HB.out.trans (HMM.out.w.mono HB.out.size))
          obtain ⟨g0, g1⟩ := ((hc2 k hkm).below HBX.out hbb2).c2
          have HIS := Lib.hid (HOK.out.ins _ (List.getElem_mem hkm))
          have HMA := Lib.hid (List.getElem_mem hkm)
          have HNX := Lib.hid (cls_next (p := p) (bl := bl) (to := (to : Int)) (T := T') (k := k) (q := q) hkm HCL.out)
          clear hc2
          generalize p.arcs[k]'(by rw [HM.out]; exact hltk) = ar at *
          obtain ⟨af, at_⟩ := ar
          dsimp only [Ar.enc] at g0 g1
          have HII := Lib.hid HIS.out
          obtain ⟨x, hx, hxn⟩ := inN_nat HII.out.1
          obtain ⟨y, hy, hyn⟩ := inN_nat HII.out.2.1
          dsimp only at hx hy
          subst hx hy
          dsimp only at HNX
          rw [Int.toNat_natCast, Int.toNat_natCast] at HNX
          rw [HN.out] at hxn hyn
          have o1 := HMM.out.cell (x := x) hxn
          have o2 := HMM.out.cell (x := y) hyn
          have oz := HMM.out.o.ltN.2
          have of0 := HMM.out.o.frozenN HMM.out.l
          rw [HGE.out] at o1 o2 oz of0
          have hb2z : b2 < wr.heap.size := Nat.lt_of_lt_of_le hbb2 HBX.out.size
          have hb1z : b1 < wr.heap.size := Nat.lt_of_lt_of_le hbb1 HBX.out.size
          have hyp : y < p.ms.length := by rw [HN.out]; exact hyn
          obtain ⟨k0, k1⟩ := ((HAT.out y hyp).below HBX.out hbb1).c2
          have HKY := Lib.hid (kdA_nat hyp)
          have HTY := Lib.hid (tAt_nat hyp)
          obtain ⟨hty0, hty1⟩ := HOK.out.times _ (List.getElem_mem hyp)
          have HKC := Lib.hid (isConveyor42 p.ms[y].kind)
          generalize p.ms[y] = my at *
          obtain ⟨ky, ty⟩ := my
          dsimp only at k0 k1 HKY HTY hty0 hty1 HKC
          have HTA := Lib.hid ((HMM.out.b.bd _ (getD_memI (x := x) (by rw [HMM.out.l]; exact hxn))))
          have HTB := Lib.hid ((HMM.out.b.bd _ (getD_memI (x := y) (by rw [HMM.out.l]; exact hyn))))
          have HUP := Lib.hid (fun hs hm hne hc => HMM.out.b.upd (m := x) (x := y) HOK.out hs (by omega) hm hne hc)
          have HI2 := Lib.hid (fun W hW => HIN.out (y : Int) W hW)
          have hxn' : (x : Int) < (n : Int) := by omega
          have hyn' : (y : Int) < (n : Int) := by omega
          rw [HTY.out] at HUP HNX
          have HSR := Lib.hid (show StepR p bl to x y ↔ ((x : Int) ≠ to ∧ ((y : Int) = to ∨ cvB ky = true) ∧ (y : Int) ∉ bl) from ⟨fun h => ⟨h.2.1, by rw [← HKY.out]; exact h.2.2.1, h.2.2.2⟩, fun h => ⟨HMA.out, h.1, by rw [HKY.out]; exact h.2.1, h.2.2⟩⟩)
          obtain ⟨ta, hta⟩ : ∃ t, T'.getD x 0 = t := ⟨_, rfl⟩
          obtain ⟨tb, htb⟩ : ∃ t, T'.getD y 0 = t := ⟨_, rfl⟩
          rw [hta] at o1 HTA HUP HNX
          rw [htb] at o2 HTB HUP HNX
          clear hta htb
          have HTA2 := Lib.hid (show ta ≤ 6400000 by have := HTA.out.2; omega)
          have hta2 := HTA2.out
          obtain ⟨Z2, hZ2⟩ : ∃ b, bl.contains (y : Int) = b := ⟨_, rfl⟩
          obtain ⟨Z3, hZ3⟩ : ∃ b, ((y : Int) == (to : Int)) = b := ⟨_, rfl⟩
          obtain ⟨Z4, hZ4⟩ : ∃ b, cvB ky = b := ⟨_, rfl⟩
          obtain ⟨Z5, hZ5⟩ : ∃ b, ((x : Int) == (to : Int)) = b := ⟨_, rfl⟩
          have hZ3' : ((y : Int) != (to : Int)) = !Z3 := by rw [bne, hZ3]
          have HSB := Lib.hid (show StepR p bl to x y ↔ (!Z5 && (Z3 || Z4) && !Z2) = true by
            rw [HSR.out, ← hZ2, ← hZ3, ← hZ4, ← hZ5]
            simp only [Bool.and_eq_true, Bool.or_eq_true, Bool.not_eq_true', beq_iff_eq, beq_eq_false_iff_ne, List.contains_eq_mem, decide_eq_false_iff_not, ne_eq, and_assoc])
          have HI3 := Lib.hid (fun (W : World) (hW : Below w.heap.size w W) => show Calls Tryz.prog 24 #[.slice ab nb cb, .int .i64 (y : Int)] W (fun e w' => e = .returned (.bool Z2) ∧ W = w') by rw [← hZ2]; exact HI2.out W hW)
          rw [hZ4] at HKC
          clear HI2 hZ2 hZ4 HSR
          have SKIP : Hid (∀ w', BfM W1 w' n p bl to fr T' → (StepR p bl to x y → 0 ≤ ta → 0 ≤ tb ∧ tb ≤ ta + ty) → ∃ (k' : Nat) (q' : Bool) (T'' : List Int), k' ≤ m ∧ Value.int IntKind.i64 ((k : Int) + 1) = .int .i64 k' ∧ Value.bool q = .bool q' ∧ BfM W1 w' n p bl to fr T'' ∧ (q' = false → ClsB p bl to T'' k') ∧ msB T'' + (if q' then 1 else 0) ≤ msB T) := Lib.hid (fun w' h1 h2 => ⟨k + 1, q, T', by omega, by go_num, rfl, h1, HNX.out h2, HCT.out⟩)
          have UPD : Hid (∀ w', BfM W1 w' n p bl to fr T' → StepR p bl to x y → 0 ≤ ta → (tb < 0 ∨ ta + ty < tb) → ∃ (k' : Nat) (q' : Bool) (T'' : List Int), k' ≤ m ∧ Value.int IntKind.i64 ((k : Int) + 1) = .int .i64 k' ∧ Value.bool true = .bool q' ∧ BfM W1 (w'.setCell ⟨G, y, none⟩ (.int .i64 (ta + ty))) n p bl to fr T'' ∧ (q' = false → ClsB p bl to T'' k') ∧ msB T'' + (if q' then 1 else 0) ≤ msB T) := Lib.hid (fun w' h1 h2 h3 h4 => by
            obtain ⟨u1, u2⟩ := HUP.out h2 h3 (HSM2.out _ _ h2) h4
            have hs := h1.o.setN h1.l encI_len y (by rw [h1.l]; exact hyn) 0 (by omega) (.int .i64 (ta + ty)) (ta + ty) (by rfl)
            rw [Nat.mul_one, Nat.add_zero, HGE.out] at hs
            refine ⟨k + 1, true, _, by omega, by go_num, rfl, ⟨by rw [HGE.out]; exact hs, u1, by rw [List.length_set]; exact h1.l, h1.w.setCell (by rw [HGE.out]; exact Nat.le_refl _) _⟩, (fun h => by cases h), ?_⟩
            have := HCT.out
            simp only [if_true]
            omega)
          have HNE := Lib.hid (fun h => HSM2.out (x : Int) (y : Int) h)
          by_cases hta0 : ta < 0
          · have e0 : decide (ta < 0) = true := decide_eq_true hta0
            go_wp2_with fail
            go_quiet (fail)
            go_wp2_with fail
            go_roundw
            case rel => exact SKIP.out _ (HMM.out.drew _) fun _ h => by omega
            case measure => simp [intOf]; omega
          have e0 : decide (ta < 0) = false := decide_eq_false hta0
          go_wp2_with fail
          go_quiet (fail)
          go_wp2_with fail
          refine (HI3.out _ (below_drewN HBX.out _)).mono ?_
          rintro e _ ⟨rfl, rfl⟩
          cases Z2 with
          | true =>
            go_wp2_with fail
            go_roundw
            case rel => exact SKIP.out _ (HMM.out.drew _) fun h => by have := HSB.out.1 h; simp at this
            case measure => simp [intOf]; omega
          | false =>
          cases Z3 with
          | true =>
            cases Z5 with
            | true =>
              go_wp2_with fail
              go_roundw
              case rel => exact SKIP.out _ (HMM.out.drew _) fun h => by have := HSB.out.1 h; simp at this
              case measure => simp [intOf]; omega
            | false =>
            have HST := Lib.hid (HSB.out.2 rfl)
            have hyf : ((y : Int) != (fr : Int)) = true := by simpa using HNE.out HST.out
            have hwr : IntKind.i64.wrap (ta + ty) = ta + ty := IntWalk.i64_in _ (by omega)
            by_cases hd1 : tb < 0
            · have d1 : decide (tb < 0) = true := decide_eq_true hd1
              go_wp2_with fail
              go_quiet (fail)
              go_wp2_with fail
              go_roundw
              case rel => exact UPD.out _ (HMM.out.drew _) HST.out (by omega) (.inl hd1)
              case measure => simp [intOf]; omega
            have d1 : decide (tb < 0) = false := decide_eq_false hd1
            by_cases hd2 : ta + ty < tb
            · have d2 : decide (ta + ty < tb) = true := decide_eq_true hd2
              go_wp2_with fail
              go_quiet (fail)
              go_wp2_with fail
              go_roundw
              case rel => exact UPD.out _ (HMM.out.drew _) HST.out (by omega) (.inr hd2)
              case measure => simp [intOf]; omega
            have d2 : decide (ta + ty < tb) = false := decide_eq_false hd2
            go_wp2_with fail
            go_quiet (fail)
            go_wp2_with fail
            go_roundw
            case rel => exact SKIP.out _ (HMM.out.drew _) fun _ _ => by omega
            case measure => simp [intOf]; omega
          | false =>
            go_wp2_with fail
            refine (HKC.out _).mono ?_
            rintro e _ ⟨rfl, rfl⟩
            cases Z4 with
            | false =>
              go_wp2_with fail
              go_roundw
              case rel => exact SKIP.out _ (HMM.out.drew _) fun h => by have := HSB.out.1 h; simp at this
              case measure => simp [intOf]; omega
            | true =>
              cases Z5 with
              | true =>
                go_wp2_with fail
                go_roundw
                case rel => exact SKIP.out _ (HMM.out.drew _) fun h => by have := HSB.out.1 h; simp at this
                case measure => simp [intOf]; omega
              | false =>
              have HST := Lib.hid (HSB.out.2 rfl)
              have hyf : ((y : Int) != (fr : Int)) = true := by simpa using HNE.out HST.out
              have hwr : IntKind.i64.wrap (ta + ty) = ta + ty := IntWalk.i64_in _ (by omega)
              by_cases hd1 : tb < 0
              · have d1 : decide (tb < 0) = true := decide_eq_true hd1
                go_wp2_with fail
                go_quiet (fail)
                go_wp2_with fail
                go_roundw
                case rel => exact UPD.out _ (HMM.out.drew _) HST.out (by omega) (.inl hd1)
                case measure => simp [intOf]; omega
              have d1 : decide (tb < 0) = false := decide_eq_false hd1
              by_cases hd2 : ta + ty < tb
              · have d2 : decide (ta + ty < tb) = true := decide_eq_true hd2
                go_wp2_with fail
                go_quiet (fail)
                go_wp2_with fail
                go_roundw
                case rel => exact UPD.out _ (HMM.out.drew _) HST.out (by omega) (.inr hd2)
                case measure => simp [intOf]; omega
              have d2 : decide (ta + ty < tb) = false := decide_eq_false hd2
              go_wp2_with fail
              go_quiet (fail)
              go_wp2_with fail
              go_roundw
              case rel => exact SKIP.out _ (HMM.out.drew _) fun _ _ => by omega
              case measure => simp [intOf]; omega
end Go.Proofs.YtahpdkkpnkhnhaaGreatDoor
/- Plain: what the commands make of a valid state. -/
namespace Go.Proofs.YtahpdkkpnkhnhaaGreatDoor
open Go Go.Proofs Go.RowKit Go.Shelf
abbrev sAt (st : List Sx) (x : Nat) : Sx := st.getD x s0
structure StV (p : Pl) (st : List Sx) : Prop where
  len : st.length = p.ms.length
  run : ∀ x : Nat, x < p.ms.length → (sAt st x).runs = true → cvB (kdA p x) = true
  fd : ∀ x : Nat, x < p.ms.length → (sAt st x).feeds = -1 ∨ (⟨x, (sAt st x).feeds⟩ : Ar) ∈ p.arcs
  gr : ∀ x : Nat, x < p.ms.length → (sAt st x).grain.toList.isEmpty = false → isName (sAt st x).grain = true ∧ kpB (kdA p x) = true
  nr : ∀ x : Nat, x < p.ms.length → (sAt st x).feeds < 0 → (sAt st x).runs = false
  uq : ∀ x y : Nat, x < p.ms.length → y < p.ms.length → 0 ≤ (sAt st x).feeds → (sAt st x).feeds = (sAt st y).feeds → x = y
  fl : ∀ x y : Nat, x < p.ms.length → (sAt st x).feeds = (y : Int) → (sAt st x).runs = true → cvB (kdA p y) = true → (sAt st y).runs = true
  g1 : ∀ x y : Nat, x < p.ms.length → (sAt st x).feeds = (y : Int) → kpB (kdA p x) = true → (sAt st x).grain.toList.isEmpty = false
  g2 : ∀ x y : Nat, x < p.ms.length → (sAt st x).feeds = (y : Int) → kpB (kdA p y) = true → (sAt st y).grain.toList.isEmpty = false
  g3 : ∀ x y : Nat, x < p.ms.length → (sAt st x).feeds = (y : Int) → kpB (kdA p x) = true → kpB (kdA p y) = true → (sAt st x).grain.toList = (sAt st y).grain.toList
theorem fedB_iff {st : List Sx} {i : Nat} (hi : i ≤ st.length) (x : Int) : fedB st i x = true ↔ ∃ k, k < i ∧ (sAt st k).feeds = x := by
  unfold fedB
  rw [List.any_eq_true]
  constructor
  · rintro ⟨s, hs, he⟩
    obtain ⟨k, hk, rfl⟩ := List.mem_iff_getElem.1 hs
    rw [List.length_take] at hk
    refine ⟨k, by omega, ?_⟩
    rw [List.getElem_take] at he
    rw [sAt, stGet (by omega)]
    exact eq_of_beq he
  · rintro ⟨k, hk, he⟩
    refine ⟨st[k]'(by omega), ?_, ?_⟩
    · rw [List.mem_iff_getElem]
      exact ⟨k, by rw [List.length_take]; omega, List.getElem_take⟩
    · rw [sAt, stGet (by omega)] at he
      exact beq_iff_eq.2 he
theorem stE_zero {p : Pl} {m : Nat} {s : Sx} (h1 : s.runs = true → cvB (kdA p m) = true) (h2 : s.feeds = -1 ∨ (⟨m, s.feeds⟩ : Ar) ∈ p.arcs) (h3 : s.grain.toList.isEmpty = false → isName s.grain = true ∧ kpB (kdA p m) = true) : stE p m s = 0 := by
  unfold stE
  rw [if_neg, if_neg, if_neg, if_neg]
  · rintro ⟨a, b⟩; rw [(h3 a).2] at b; cases b
  · rintro ⟨a, b⟩; rw [(h3 a).1] at b; cases b
  · rintro ⟨a, b⟩
    rcases h2 with h | h
    · exact a h
    · exact absurd h (of_decide_eq_false b)
  · intro h
    simp only [Bool.and_eq_true, Bool.not_eq_true'] at h
    rw [h1 h.1] at h; cases h.2
theorem ckStL_zero {p : Pl} : ∀ {r : List Sx} {k : Nat}, (∀ i (h : i < r.length), stE p (k + i) r[i] = 0) → ckStL p k r = 0
  | [], _, _ => rfl
  | a :: r, k, h => by
    unfold ckStL
    have h0 := h 0 (by simp)
    simp only [Nat.add_zero, List.getElem_cons_zero] at h0
    rw [if_neg (by rw [h0]; simp)]
    refine ckStL_zero fun i hi => ?_
    have := h (i + 1) (by simpa using hi)
    simpa [Nat.add_assoc, Nat.add_comm 1 i] using this
theorem vdK_ok {p : Pl} {st : List Sx} {i : Nat} (hi : i ≤ st.length) (h : vdK p st i = true) :
    ((sAt st i).feeds < 0 → (sAt st i).runs = false) ∧ (0 ≤ (sAt st i).feeds → (∀ k, k < i → (sAt st k).feeds ≠ (sAt st i).feeds)) ∧
      ∀ y : Nat, (sAt st i).feeds = (y : Int) → ((sAt st i).runs = true → cvB (kdA p y) = true → (sAt st y).runs = true) ∧ (kpB (kdA p i) = true → (sAt st i).grain.toList.isEmpty = false) ∧ (kpB (kdA p y) = true → (sAt st y).grain.toList.isEmpty = false) ∧
        (kpB (kdA p i) = true → kpB (kdA p y) = true → (sAt st i).grain.toList = (sAt st y).grain.toList) := by
  unfold vdK at h
  change (if (sAt st i).feeds < 0 then !(sAt st i).runs else
  !(fedB st i (sAt st i).feeds || ((sAt st i).runs && cvB (kdA p (sAt st i).feeds) && !(sAt st (sAt st i).feeds.toNat).runs)) &&
  !((kpB (kdA p i) && (sAt st i).grain.toList.isEmpty) || (kpB (kdA p (sAt st i).feeds) && (sAt st (sAt st i).feeds.toNat).grain.toList.isEmpty) || (kpB (kdA p i) && kpB (kdA p (sAt st i).feeds) && !((sAt st i).grain.toList == (sAt st (sAt st i).feeds.toNat).grain.toList)))) = true at h
  by_cases hf : (sAt st i).feeds < 0
  · rw [if_pos hf] at h
    refine ⟨fun _ => by simpa using h, fun h0 => by omega, fun y hy => by omega⟩
  · rw [if_neg hf] at h
    simp only [Bool.and_eq_true, Bool.not_eq_true', Bool.or_eq_false_iff] at h
    obtain ⟨⟨h1, h2⟩, ⟨h3, h4⟩, h5⟩ := h
    refine ⟨fun h0 => absurd h0 hf, fun _ k hk e => ?_, fun y hy => ?_⟩
    · have := (fedB_iff hi (sAt st i).feeds).2 ⟨k, hk, e⟩
      rw [h1] at this; cases this
    · rw [hy, Int.toNat_natCast] at h2 h4 h5
      refine ⟨fun a b => ?_, fun a => ?_, fun a => ?_, fun a b => ?_⟩
      · rw [a, b] at h2; simpa using h2
      · rw [a] at h3; simpa using h3
      · rw [a] at h4; simpa using h4
      · rw [a, b] at h5; simpa using h5
theorem vdK_mk {p : Pl} {st : List Sx} {i : Nat} (hi : i ≤ st.length) (h1 : (sAt st i).feeds < 0 → (sAt st i).runs = false) (h2 : 0 ≤ (sAt st i).feeds → (∀ k, k < i → (sAt st k).feeds ≠ (sAt st i).feeds))
    (h3 : ∀ y : Nat, (sAt st i).feeds = (y : Int) → ((sAt st i).runs = true → cvB (kdA p y) = true → (sAt st y).runs = true) ∧ (kpB (kdA p i) = true → (sAt st i).grain.toList.isEmpty = false) ∧ (kpB (kdA p y) = true → (sAt st y).grain.toList.isEmpty = false) ∧
        (kpB (kdA p i) = true → kpB (kdA p y) = true → (sAt st i).grain.toList = (sAt st y).grain.toList)) : vdK p st i = true := by
  unfold vdK
  change (if (sAt st i).feeds < 0 then !(sAt st i).runs else
  !(fedB st i (sAt st i).feeds || ((sAt st i).runs && cvB (kdA p (sAt st i).feeds) && !(sAt st (sAt st i).feeds.toNat).runs)) &&
  !((kpB (kdA p i) && (sAt st i).grain.toList.isEmpty) || (kpB (kdA p (sAt st i).feeds) && (sAt st (sAt st i).feeds.toNat).grain.toList.isEmpty) || (kpB (kdA p i) && kpB (kdA p (sAt st i).feeds) && !((sAt st i).grain.toList == (sAt st (sAt st i).feeds.toNat).grain.toList)))) = true
  by_cases hf : (sAt st i).feeds < 0
  · rw [if_pos hf, h1 hf]; rfl
  · rw [if_neg hf]
    obtain ⟨y, hy⟩ : ∃ y : Nat, (sAt st i).feeds = (y : Int) := ⟨(sAt st i).feeds.toNat, by omega⟩
    obtain ⟨a, b, c, d⟩ := h3 y hy
    have hfd : fedB st i (sAt st i).feeds = false := by
      cases hq : fedB st i (sAt st i).feeds with
      | false => rfl
      | true =>
        obtain ⟨k, hk, e⟩ := (fedB_iff hi _).1 hq
        exact absurd e (h2 (by omega) k hk)
    rw [hfd, hy, Int.toNat_natCast]
    simp only [Bool.and_eq_true, Bool.not_eq_true', Bool.or_eq_false_iff]
    refine ⟨⟨trivial, ?_⟩, ⟨?_, ?_⟩, ?_⟩
    · cases q1 : (sAt st i).runs with
      | false => rfl
      | true =>
        cases q2 : cvB (kdA p y) with
        | false => rfl
        | true => rw [a q1 q2]; rfl
    · cases q1 : kpB (kdA p i) with
      | false => rfl
      | true => rw [b q1]; rfl
    · cases q1 : kpB (kdA p y) with
      | false => rfl
      | true => rw [c q1]; rfl
    · cases q1 : kpB (kdA p i) with
      | false => rfl
      | true =>
        cases q2 : kpB (kdA p y) with
        | false => rfl
        | true => rw [d q1 q2]; simp
theorem StV.of {p : Pl} {st : List Sx} (h : ckState p st = 0) : StV p st := by
  obtain ⟨hok, hlen, hst, hvd⟩ := ckState_ok h
  rw [validB_iff] at hvd
  have hs : ∀ x : Nat, x < p.ms.length → stE p x (sAt st x) = 0 := fun x hx => by
    have := ckStL_ok hst x (by omega)
    rw [Nat.zero_add] at this
    rw [sAt, stGet (by omega)]; exact this
  have hv := fun (x : Nat) (hx : x < p.ms.length) => vdK_ok (p := p) (st := st) (i := x) (by omega) (hvd x (by omega))
  have hin : ∀ x y : Nat, x < p.ms.length → (sAt st x).feeds = (y : Int) → y < p.ms.length := fun x y hx hy => by
    rcases (stE_ok (hs x hx)).2.1 with h1 | h1
    · omega
    · obtain ⟨k, hk, hkn⟩ := inN_nat (hok.ins _ h1).2.1
      dsimp only at hk; omega
  refine ⟨hlen, fun x hx => (stE_ok (hs x hx)).1, fun x hx => (stE_ok (hs x hx)).2.1, fun x hx => (stE_ok (hs x hx)).2.2, fun x hx => (hv x hx).1, fun x y hx hy h0 he => ?_, fun x y hx hf => ((hv x hx).2.2 y hf).1, fun x y hx hf => ((hv x hx).2.2 y hf).2.1,
    fun x y hx hf => ((hv x hx).2.2 y hf).2.2.1, fun x y hx hf => ((hv x hx).2.2 y hf).2.2.2⟩
  rcases Nat.lt_trichotomy x y with h1 | h1 | h1
  · exact absurd he ((hv y hy).2.1 (by omega) x h1)
  · exact h1
  · exact absurd he.symm ((hv x hx).2.1 h0 y h1)
theorem StV.ck {p : Pl} {st : List Sx} (hck : ckPlant p = 0) (h : StV p st) : ckState p st = 0 := by
  unfold ckState
  have h1 : ckStL p 0 st = 0 := ckStL_zero fun i hi => by
    have hx : i < p.ms.length := by have := h.len; omega
    rw [Nat.zero_add]
    have e : st[i] = sAt st i := (stGet hi).symm
    rw [e]
    exact stE_zero (h.run i hx) (h.fd i hx) (h.gr i hx)
  have h2 : validB p st = true := (validB_iff p st).2 fun i hi => by
    have hx : i < p.ms.length := by have := h.len; omega
    exact vdK_mk (by omega) (h.nr i hx) (fun h0 k hk e => absurd (h.uq k i (by omega) hx (by omega) e) (by omega)) fun y hy => ⟨h.fl i y hx hy, h.g1 i y hx hy, h.g2 i y hx hy, h.g3 i y hx hy⟩
  rw [if_neg (by rw [hck]; simp), if_neg (by rw [h.len]; simp), if_neg (by rw [h1]; simp), if_pos h2]
structure PaV (p : Pl) (l : List Int) : Prop where
  two : 2 ≤ l.length
  at_ : ∀ k, k < l.length → ∃ x : Nat, l.getD k 0 = (x : Int) ∧ x < p.ms.length
  nd : ∀ i j, i < l.length → j < l.length → l.getD i 0 = l.getD j 0 → i = j
  arc : ∀ k, k + 1 < l.length → (⟨l.getD k 0, l.getD (k + 1) 0⟩ : Ar) ∈ p.arcs
  inner : ∀ k, 0 < k → k + 1 < l.length → cvB (kdA p (l.getD k 0)) = true
  fst : cvB (kdA p (l.getD 0 0)) = false
  lst : cvB (kdA p (l.getD (l.length - 1) 0)) = false
  pit : kpB (kdA p (l.getD 0 0)) = true → kn (kdA p (l.getD 0 0)) = 1
  spt : kpB (kdA p (l.getD (l.length - 1) 0)) = true → kn (kdA p (l.getD (l.length - 1) 0)) = 1
theorem bg_cv {s : ByteArray} (h : bgB s = true) : cvB s = false ∧ (kpB s = true → kn s = 1) := by
  unfold bgB at h
  simp only [Bool.or_eq_true, decide_eq_true_eq] at h
  unfold cvB kpB
  refine ⟨decide_eq_false (by omega), fun hk => ?_⟩
  simp only [Bool.and_eq_true, decide_eq_true_eq] at hk
  omega
theorem en_cv {s : ByteArray} (h : enB s = true) : cvB s = false ∧ (kpB s = true → kn s = 1) := by
  unfold enB at h
  simp only [Bool.or_eq_true, decide_eq_true_eq] at h
  unfold cvB kpB
  refine ⟨decide_eq_false (by omega), fun hk => ?_⟩
  simp only [Bool.and_eq_true, decide_eq_true_eq] at hk
  omega
theorem getD_mem {l : List Int} {k : Nat} (h : k < l.length) : l.getD k 0 ∈ l := by
  rw [List.getD_eq_getElem?_getD, List.getElem?_eq_getElem h]; exact List.getElem_mem h
theorem PaV.of {p : Pl} {l : List Int} (h : pathE p l = 0) : PaV p l := by
  obtain ⟨hin, hp⟩ := pathE_ok h
  obtain ⟨h1, h2, h3, h4, h5⟩ := (pathB_iff p l).1 hp
  have hk : ∀ k, k < l.length → 0 < k → (k + 1 = l.length ∨ cvB (kdA p (l.getD k 0)) = true) ∧ (⟨l.getD (k - 1) 0, l.getD k 0⟩ : Ar) ∈ p.arcs := fun k hk h0 => by
    have := h5 k hk
    unfold okK at this
    simp only [Bool.or_eq_true, Bool.and_eq_true, decide_eq_true_eq] at this
    rcases this with h | h
    · omega
    · exact h
  refine ⟨h1, fun k hk => inN_nat (hin _ (getD_mem hk)), fun i j hi hj e => ?_, fun k hk1 => ?_, fun k h0 hk1 => ?_, (bg_cv h2).1, (en_cv h3).1, (bg_cv h2).2, (en_cv h3).2⟩
  · rw [List.getD_eq_getElem?_getD, List.getElem?_eq_getElem hi, List.getD_eq_getElem?_getD, List.getElem?_eq_getElem hj] at e
    have h6 := List.pairwise_iff_getElem.1 (List.nodup_iff_pairwise_ne.1 h4)
    rcases Nat.lt_trichotomy i j with h | h | h
    · exact absurd e (h6 i j hi hj h)
    · exact h
    · exact absurd e.symm (h6 j i hj hi h)
  · have := (hk (k + 1) hk1 (by omega)).2
    rwa [Nat.add_sub_cancel] at this
  · rcases (hk k (by omega) h0).1 with h | h
    · omega
    · exact h
theorem PaV.cases {p : Pl} {l : List Int} (_ : PaV p l) (x : Nat) : (∃ k, k < l.length ∧ (l.getD k 0).toNat = x) ∨ ∀ k, k < l.length → (l.getD k 0).toNat ≠ x := by
  by_cases h : ∃ k, k < l.length ∧ (l.getD k 0).toNat = x
  · exact .inl h
  · exact .inr fun k hk e => h ⟨k, hk, e⟩
end Go.Proofs.YtahpdkkpnkhnhaaGreatDoor
/- Plain: tasks that meet; the starts that the reference tries. -/
namespace Go.Proofs.YtahpdkkpnkhnhaaGreatDoor
open Go Go.Proofs Go.RowKit Go.Shelf
theorem getD_geI {l : List Int} {k : Nat} (h : k < l.length) : l.getD k 0 = l[k] := by rw [List.getD_eq_getElem?_getD, List.getElem?_eq_getElem h]; rfl
end Go.Proofs.YtahpdkkpnkhnhaaGreatDoor
/- Walks: the law PathRoutes. -/
namespace Go.Proofs.YtahpdkkpnkhnhaaGreatDoor
open Go Go.Proofs Go.RowKit Go.Shelf
theorem Box.v3 {w : World} {b : Nat} {e : TypeId} {x y z : Value} (h : Box w b e [x, y, z]) : w.cell? ⟨b, 0, none⟩ = some x ∧ w.cell? ⟨b, 1, none⟩ = some y ∧ w.cell? ⟨b, 2, none⟩ = some z ∧ (∀ o, w.frozen? ⟨b, o, none⟩ = false) ∧ b < w.heap.size :=
  ⟨h.cell 0, h.cell 1, h.cell 2, h.frozen, h.lt⟩
theorem RtPost.sl {w : World} {L : List Int} {c : Int} {e : Ending} {w' : World} (h : RtPost w L c e w') (hl : L.length ≤ 1000000000) : ∃ v, e = .returned (.tuple #[v, .int .i64 c]) ∧ Sl encI 1 w' w'.heap.size v L ∧ Below w.heap.size w w' := by
  obtain ⟨v, rfl, ho, hb⟩ := h
  exact ⟨v, rfl, ho.toSl encI_len hl, hb⟩
end Go.Proofs.YtahpdkkpnkhnhaaGreatDoor
/- A region that draws its order: quiet operations, then a call that all others wait for or are waited for by, then quiet operations in whatever order. -/
namespace Go
open Go.RowKit
section
variable {P : Program} {ops : Array Oper} {C : World → Prop}
structure SameW (W : World) where
  w : World
  h : w = W
instance (W : World) : Nonempty (SameW W) := ⟨⟨W, rfl⟩⟩
theorem SameW.cell {W : World} (X : SameW W) (b o : Nat) : X.w.cell? ⟨b, o, none⟩ = W.cell? ⟨b, o, none⟩ := by rw [X.h]
attribute [go_sem] SameW.cell
end
end Go
/- A region that draws its order, in which one operation calls a function that makes memory of its own: the operations that do not look at its answer come before it or behind it, those that do behind it; all but the call are quiet. -/
namespace Go
open Go.RowKit
section
def selF (f : Nat → Bool) : Nat → List Oper → List Oper
  | _, [] => []
  | k, o :: r => if f k then o :: selF f (k + 1) r else selF f (k + 1) r
theorem selF_mem (f : Nat → Bool) : ∀ (l : List Oper) (k : Nat) (o : Oper), o ∈ selF f k l → ∃ j, l[j]? = some o ∧ f (k + j) = true
  | [], _, _, h => by simp [selF] at h
  | x :: r, k, o, h => by
    unfold selF at h
    have hr : ∀ (h : o ∈ selF f (k + 1) r), ∃ j, (x :: r)[j]? = some o ∧ f (k + j) = true := fun h => by
      obtain ⟨j, h1, h2⟩ := selF_mem f r (k + 1) o h
      exact ⟨j + 1, by simpa using h1, by rw [show k + (j + 1) = k + 1 + j by omega]; exact h2⟩
    split at h
    · rename_i hf
      rcases List.mem_cons.1 h with rfl | h
      · exact ⟨0, rfl, by simpa using hf⟩
      · exact hr h
    · exact hr h
theorem selF_split (f : Nat → Bool) : ∀ (l : List Oper) (k i : Nat) (o : Oper), l[i]? = some o → f (k + i) = true →
    ∃ pre post, selF f k l = pre ++ o :: post ∧ (∀ p ∈ pre, ∃ j, j < i ∧ l[j]? = some p ∧ f (k + j) = true) ∧ (∀ j p, j < i → l[j]? = some p → f (k + j) = true → p ∈ pre)
  | [], _, i, o, h, _ => by simp at h
  | x :: r, k, 0, o, h, hf => by
    obtain rfl : x = o := by simpa using h
    unfold selF
    rw [if_pos (by simpa using hf)]
    exact ⟨[], _, rfl, by simp, fun j p hj => by omega⟩
  | x :: r, k, i + 1, o, h, hf => by
    obtain ⟨pre, post, h1, h2, h3⟩ := selF_split f r (k + 1) i o (by simpa using h) (by rw [show k + 1 + i = k + (i + 1) by omega]; exact hf)
    have h2' : ∀ p ∈ pre, ∃ j, j < i + 1 ∧ (x :: r)[j]? = some p ∧ f (k + j) = true := fun p hp => by
      obtain ⟨j, a1, a2, a3⟩ := h2 p hp
      exact ⟨j + 1, by omega, by simpa using a2, by rw [show k + (j + 1) = k + 1 + j by omega]; exact a3⟩
    unfold selF
    by_cases hx : f k = true
    · rw [if_pos hx, h1]
      refine ⟨x :: pre, post, rfl, fun p hp => ?_, fun j p hj hp hfj => ?_⟩
      · rcases List.mem_cons.1 hp with rfl | hp
        · exact ⟨0, by omega, rfl, by simpa using hx⟩
        · exact h2' p hp
      · cases j with
        | zero => obtain rfl : x = p := by simpa using hp
                  simp
        | succ j => exact List.mem_cons_of_mem _ (h3 j p (by omega) (by simpa using hp) (by rw [show k + 1 + j = k + (j + 1) by omega]; exact hfj))
    · rw [if_neg hx, h1]
      refine ⟨pre, post, rfl, h2', fun j p hj hp hfj => ?_⟩
      cases j with
      | zero => exact absurd (by simpa using hfj) hx
      | succ j => exact h3 j p (by omega) (by simpa using hp) (by rw [show k + 1 + j = k + (j + 1) by omega]; exact hfj)
theorem selF_pair (f : Nat → Bool) {R : Oper → Oper → Prop} : ∀ (l : List Oper) (k : Nat), (∀ (i j : Nat) (x y : Oper), i < j → l[i]? = some x → l[j]? = some y → R x y) → (selF f k l).Pairwise R
  | [], _, _ => by simp [selF]
  | x :: r, k, h => by
    have ih := selF_pair f r (k + 1) fun i j a b hij ha hb => h (i + 1) (j + 1) a b (by omega) (by simpa using ha) (by simpa using hb)
    unfold selF
    split
    · refine List.pairwise_cons.2 ⟨fun y hy => ?_, ih⟩
      obtain ⟨j, h1, _⟩ := selF_mem f r (k + 1) y hy
      exact h 0 (j + 1) x y (by omega) rfl (by simpa using h1)
    · exact ih
structure PartFlow (ops : Array Oper) (b : Nat) (T : Nat → Bool) (ob : Oper) (W : World) (a0 A1 : Act) (A2 : Value → Act) (D : Value → World → Prop) (listed : Array Bool) (a : Act) (w : World) (v : Value) : Prop where
  lsize : listed.size = ops.size
  later : Below W.heap.size W w
  size : a.tmps.size = a0.tmps.size
  defers : a.defers = a0.defers
  slot : ∀ (j : Nat) (o : Oper) (t : Nat), ops[j]? = some o → o.dst = some t → j ≠ b → a.tmps[t]? = if listed.getD j false = true then (if T j then (A2 v).tmps[t]? else A1.tmps[t]?) else a0.tmps[t]?
  slotb : ∀ t, ob.dst = some t → a.tmps[t]? = if listed.getD b false = true then a0.tmps[t]?.map (fun _ => v) else a0.tmps[t]?
  other : ∀ t, (∀ (j : Nat) (o : Oper), ops[j]? = some o → o.dst ≠ some t) → a.tmps[t]? = a0.tmps[t]?
  tb : ∀ k, T k = true → listed.getD k false = true → listed.getD b false = true
  box : listed.getD b false = true → D v w
variable {P : Program} {l : List Oper} {b : Nat} {T : Nat → Bool} {ob : Oper} {W : World} {a0 A1 : Act} {A2 : Value → Act} {D : Value → World → Prop} {Q : Exit → Act → World → Prop}
end
end Go
