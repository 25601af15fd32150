/- Lemmas on the way to the law PathBottlenecks (part 13): Tc Tf Vo -/
import Derived.Test.YtahpdkkpnkhnhaaGreatDoorPathBottlenecksP12
import Derived.Test.YtahpdkkpnkhnhaaGreatDoorPathBottlenecksP04
import Derived.Test.YtahpdkkpnkhnhaaGreatDoorPathBottlenecksP08
import Derived.Test.YtahpdkkpnkhnhaaGreatDoorBA29
set_option linter.unusedVariables false
set_option linter.unusedSimpArgs false

/- Walks: CheckEnds of the reference. -/
namespace Go.Proofs.YtahpdkkpnkhnhaaGreatDoor
open Go Go.Proofs Go.RowKit Go.Shelf
theorem any_both (a b : List Int) : a.any (fun x => b.contains x) = b.any (fun x => a.contains x) := by
  rw [Bool.eq_iff_iff, List.any_eq_true, List.any_eq_true]
  constructor <;> (rintro ⟨x, h1, h2⟩; exact ⟨x, by simpa using h2, by simpa using h1⟩)
set_option maxRecDepth 100000 in
set_option maxHeartbeats 1000000 in
theorem checkEnds63 (w : World) (v1 v2 s t : Value) (p : Pl) (src snk : List Int) (hv : PlR w w.heap.size v1 v2 p) (hs : Sl encI 1 w w.heap.size s src) (ht : Sl encI 1 w w.heap.size t snk) :
    Calls Tryz.prog 63 #[.agg #[v1, v2], s, t] w (Ret (.int .i64 (endsE p src snk)) w) := by
  have C1 := Lib.hid (fun (w1 : World) (hb : Below w.heap.size w w1) => ends123 w1 v1 v2 s false p src (hv.later hb) (hs.later hb))
  have C2 := Lib.hid (fun (w1 : World) (hb : Below w.heap.size w w1) => ends123 w1 v1 v2 t true p snk (hv.later hb) (ht.later hb))
  have C3 := Lib.hid (fun (w1 : World) (hb : Below w.heap.size w w1) (x : Int) => in24 t snk x w1 (ht.later hb))
  obtain ⟨a1, n1, a2, n2, rfl, rfl⟩ := hv.agg
  obtain ⟨a, c, rfl, hlen, hA⟩ := hs
  have HA := Lib.hid hA
  clear hA hv ht
  obtain ⟨hl, hlc⟩ := hlen
  obtain ⟨n, hn⟩ : ∃ n, p.ms.length = n := ⟨_, rfl⟩
  obtain ⟨m, hm⟩ : ∃ m, p.arcs.length = m := ⟨_, rfl⟩
  obtain ⟨ln, hll⟩ : ∃ m, src.length = m := ⟨_, rfl⟩
  obtain ⟨R, hR⟩ : ∃ R, endsE p src snk = R := ⟨_, rfl⟩
  rw [hR]
  unfold endsE at hR
  rw [any_both] at hR
  obtain ⟨E1, hE1⟩ : ∃ e, endE p bgB src = e := ⟨_, rfl⟩
  obtain ⟨E2, hE2⟩ : ∃ e, endE p enB snk = e := ⟨_, rfl⟩
  rw [hE1, hE2] at hR
  rw [show endE p (endF false) src = E1 from hE1] at C1
  rw [show endE p (endF true) snk = E2 from hE2] at C2
  clear hE1 hE2
  rw [hn] at C1 C2 ⊢
  rw [hm] at C1 C2 ⊢
  rw [hll] at C1 hl hlc ⊢
  have HLN := Lib.hid hll
  clear hn hm hll
  have HB := Lib.hid ((Below.refl w.heap.size w).alloc (Nat.le_refl _) (.cells #[.slice a1 n n1, .slice a2 m n2] 25))
  have HX := Lib.hid (Box.new w #[.slice a1 n n1, .slice a2 m n2] 25)
  by_cases h1 : E1 = 0
  rotate_left
  · have k1 : (E1 == 0) = false := beq_eq_false_iff_ne.2 h1
    have hR0 : (if E1 = 0 then (if (src.drop 0).any (fun x => snk.contains x) = true then (9 : Int) else 0) else E1) = R := by rw [if_neg h1, ← hR, if_pos h1]
    clear h1
    go_enter Tryz.func63, Tryz.ntmps63
    go_wp2_with fail
    refine (C1.out _ HB.out).mono ?_
    rintro e w2 ⟨rfl, hb⟩
    have HB2 := Lib.hid (HB.out.trans (hb.mono HB.out.size))
    clear hb HX
    have HR0 := Lib.hid hR0
    clear hR hR0
    go_wp2_with fail
    go_loopw [7, 8] (fun e i wr => ∃ k : Nat, k ≤ ln ∧ i = .int .i64 k ∧ Below w.heap.size w wr ∧ ∃ E : Int, e = .int .i64 E ∧ (if E = 0 then (if (src.drop k).any (fun x => snk.contains x) = true then (9 : Int) else 0) else E) = R) (fun _ i _ => ln - (intOf i).toNat)
    case atStart => exact ⟨0, by omega, rfl, HB2.out, _, rfl, HR0.out⟩
    case round =>
      clear HR0
      obtain ⟨k, hk, rfl, hbe, E, rfl, hrel⟩ := hrel
      have HR := Lib.hid hrel
      have HBE := Lib.hid hbe
      clear hbe hrel
      by_cases hlt : k < ln
      rotate_left
      · obtain rfl : ln = k := by omega
        have HV := Lib.hid (show E = R by
          have h := HR.out
          rw [List.drop_of_length_le (by rw [HLN.out]; omega)] at h
          split at h
          · rename_i h0; rw [h0, ← h]; rfl
          · exact h)
        go_wp2_with fail
        go_ret
        exact ⟨by rw [HV.out]; rfl, HBE.out⟩
      by_cases hE : E = 0
      rotate_left
      · have k1 : (E == 0) = false := beq_eq_false_iff_ne.2 hE
        have HV := Lib.hid (show E = R by have h := HR.out; rw [if_neg hE] at h; exact h)
        clear hE
        go_wp2_with fail
        go_ret
        exact ⟨by rw [HV.out]; rfl, HBE.out⟩
      subst hE
      have hkl : k < src.length := by rw [HLN.out]; exact hlt
      obtain ⟨bb, off, rfl, hbb, hcells⟩ := HA.out (by omega)
      have c0 := ((hcells k hkl).below HBE.out hbb).c1
      rw [Nat.mul_one] at c0
      have hbz : bb < wr.heap.size := Nat.lt_of_lt_of_le hbb HBE.out.size
      have HD := Lib.hid (show (if (snk.contains src[k] || (src.drop (k + 1)).any (fun x => snk.contains x)) = true then (9 : Int) else 0) = R from by
        have h := HR.out
        rw [if_pos rfl, List.drop_eq_getElem_cons hkl, List.any_cons] at h
        exact h)
      have C3k := Lib.hid (fun w1 hb => C3.out w1 hb src[k])
      clear hcells
      generalize src[k] = x at *
      obtain ⟨q, hq⟩ : ∃ q, snk.contains x = q := ⟨_, rfl⟩
      rw [hq] at C3k HD
      clear hq
      go_wp2_with fail
      refine (C3k.out _ HBE.out).mono ?_
      rintro e6 w6 ⟨rfl, rfl⟩
      cases q with
      | true =>
        go_wp2_with fail
        go_roundw
        case rel => exact ⟨k + 1, by omega, by go_num, HBE.out, 9, rfl, by rw [if_neg (by decide), ← HD.out]; rfl⟩
        case measure => simp [intOf]; omega
      | false =>
        go_wp2_with fail
        go_roundw
        case rel => exact ⟨k + 1, by omega, by go_num, HBE.out, 0, rfl, by rw [if_pos rfl, ← HD.out]; rfl⟩
        case measure => simp [intOf]; omega
  subst h1
  rw [if_neg (by simp)] at hR
  have hR0 : (if E2 = 0 then (if (src.drop 0).any (fun x => snk.contains x) = true then (9 : Int) else 0) else E2) = R := by
    rw [List.drop_zero, ← hR]
    by_cases h2 : E2 = 0
    · rw [if_pos h2, if_neg (show ¬ E2 ≠ 0 by simpa using h2)]
    · rw [if_neg h2, if_pos h2]
  go_enter Tryz.func63, Tryz.ntmps63
  go_wp2_with fail
  refine (C1.out _ HB.out).mono ?_
  rintro e w2 ⟨rfl, hb⟩
  have HB2 := Lib.hid (HB.out.trans (hb.mono HB.out.size))
  have HX2 := Lib.hid (HX.out.later hb)
  clear hb HX
  obtain ⟨x0, x1, xf, xz⟩ := HX2.out.v2
  go_wp2_with fail
  refine (C2.out _ HB2.out).mono ?_
  rintro e w3 ⟨rfl, hb⟩
  have HB3 := Lib.hid (HB2.out.trans (hb.mono HB2.out.size))
  clear hb x0 x1 xf xz
  have HR0 := Lib.hid hR0
  clear hR hR0
  go_wp2_with fail
  go_loopw [7, 8] (fun e i wr => ∃ k : Nat, k ≤ ln ∧ i = .int .i64 k ∧ Below w.heap.size w wr ∧ ∃ E : Int, e = .int .i64 E ∧ (if E = 0 then (if (src.drop k).any (fun x => snk.contains x) = true then (9 : Int) else 0) else E) = R) (fun _ i _ => ln - (intOf i).toNat)
  case atStart => exact ⟨0, by omega, rfl, HB3.out, _, rfl, HR0.out⟩
  case round =>
    clear HR0
    obtain ⟨k, hk, rfl, hbe, E, rfl, hrel⟩ := hrel
    have HR := Lib.hid hrel
    have HBE := Lib.hid hbe
    clear hbe hrel
    by_cases hlt : k < ln
    rotate_left
    · obtain rfl : ln = k := by omega
      have HV := Lib.hid (show E = R by
        have h := HR.out
        rw [List.drop_of_length_le (by rw [HLN.out]; omega)] at h
        split at h
        · rename_i h0; rw [h0, ← h]; rfl
        · exact h)
      go_wp2_with fail
      go_ret
      exact ⟨by rw [HV.out]; rfl, HBE.out⟩
    by_cases hE : E = 0
    rotate_left
    · have k1 : (E == 0) = false := beq_eq_false_iff_ne.2 hE
      have HV := Lib.hid (show E = R by have h := HR.out; rw [if_neg hE] at h; exact h)
      clear hE
      go_wp2_with fail
      go_ret
      exact ⟨by rw [HV.out]; rfl, HBE.out⟩
    subst hE
    have hkl : k < src.length := by rw [HLN.out]; exact hlt
    obtain ⟨bb, off, rfl, hbb, hcells⟩ := HA.out (by omega)
    have c0 := ((hcells k hkl).below HBE.out hbb).c1
    rw [Nat.mul_one] at c0
    have hbz : bb < wr.heap.size := Nat.lt_of_lt_of_le hbb HBE.out.size
    have HD := Lib.hid (show (if (snk.contains src[k] || (src.drop (k + 1)).any (fun x => snk.contains x)) = true then (9 : Int) else 0) = R from by
      have h := HR.out
      rw [if_pos rfl, List.drop_eq_getElem_cons hkl, List.any_cons] at h
      exact h)
    have C3k := Lib.hid (fun w1 hb => C3.out w1 hb src[k])
    clear hcells
    generalize src[k] = x at *
    obtain ⟨q, hq⟩ : ∃ q, snk.contains x = q := ⟨_, rfl⟩
    rw [hq] at C3k HD
    clear hq
    go_wp2_with fail
    refine (C3k.out _ HBE.out).mono ?_
    rintro e6 w6 ⟨rfl, rfl⟩
    cases q with
    | true =>
      go_wp2_with fail
      go_roundw
      case rel => exact ⟨k + 1, by omega, by go_num, HBE.out, 9, rfl, by rw [if_neg (by decide), ← HD.out]; rfl⟩
      case measure => simp [intOf]; omega
    | false =>
      go_wp2_with fail
      go_roundw
      case rel => exact ⟨k + 1, by omega, by go_num, HBE.out, 0, rfl, by rw [if_pos rfl, ← HD.out]; rfl⟩
      case measure => simp [intOf]; omega
end Go.Proofs.YtahpdkkpnkhnhaaGreatDoor
/- Walks: CheckDisjoint of the reference. -/
namespace Go.Proofs.YtahpdkkpnkhnhaaGreatDoor
open Go Go.Proofs Go.RowKit Go.Shelf
theorem flat_len {L : List Pt} (h : ∀ t ∈ L, t.l.length ≤ 80) : (L.flatMap Pt.l).length ≤ 80 * L.length := by
  induction L with
  | nil => simp
  | cons t r ih =>
    rw [List.flatMap_cons, List.length_append, List.length_cons]
    have h1 := h t (by simp)
    have h2 := ih fun x hx => h x (by simp [hx])
    omega
theorem flat_take (L : List Pt) (k : Nat) (h : k < L.length) : (L.take (k + 1)).flatMap Pt.l = (L.take k).flatMap Pt.l ++ L[k].l := by
  rw [List.take_add_one, List.getElem?_eq_getElem h, List.flatMap_append]
  simp
set_option maxRecDepth 100000 in
set_option maxHeartbeats 2000000 in
theorem checkDisjoint65 (w : World) (v1 v2 s t u : Value) (p : Pl) (src snk : List Int) (L : List Pt) (hv : PlR w w.heap.size v1 v2 p) (hs : Sl encI 1 w w.heap.size s src) (ht : Sl encI 1 w w.heap.size t snk) (hu : PtR w w.heap.size u L) (h20 : L.length ≤ 20) (h80 : ∀ t ∈ L, t.l.length ≤ 80) :
    Calls Tryz.prog 65 #[.agg #[v1, v2], s, t, u] w (Ret (.int .i64 (disE p src snk L)) w) := by
  have C22 := Lib.hid (fun (w1 : World) (hb : Below w.heap.size w w1) (x : Pt) (hx : x ∈ L) => checkPath22 w1 v1 v2 _ p x.l (hv.later hb) ((hu.rd x hx).later hb))
  have C24 := Lib.hid (fun (w1 : World) (hb : Below w.heap.size w w1) (x : Int) => in24 s src x w1 (hs.later hb))
  have D24 := Lib.hid (fun (w1 : World) (hb : Below w.heap.size w w1) (x : Int) => in24 t snk x w1 (ht.later hb))
  have HRD := Lib.hid hu.rd
  have HFL := Lib.hid (flat_len h80)
  have H80 := Lib.hid h80
  obtain ⟨a1, n1, a2, n2, rfl, rfl⟩ := hv.agg
  obtain ⟨a, c, rfl, hlen, hA⟩ := hu.sl
  have HA := Lib.hid hA
  clear hA hv hu hs ht h80
  obtain ⟨hl, hlc⟩ := hlen
  obtain ⟨n, hn⟩ : ∃ n, p.ms.length = n := ⟨_, rfl⟩
  obtain ⟨m, hm⟩ : ∃ m, p.arcs.length = m := ⟨_, rfl⟩
  obtain ⟨ln, hll⟩ : ∃ m, L.length = m := ⟨_, rfl⟩
  rw [hn] at C22 ⊢
  rw [hm] at C22 ⊢
  rw [hll] at hl hlc h20 HFL ⊢
  have HLN := Lib.hid hll
  clear hn hm hll
  obtain ⟨R, hR⟩ : ∃ R, disE p src snk L = R := ⟨_, rfl⟩
  rw [hR]
  unfold disE at hR
  obtain ⟨du, hdu⟩ : ∃ d, dupB (L.flatMap Pt.l) = d := ⟨_, rfl⟩
  rw [hdu] at hR
  have HDU := Lib.hid hdu
  have HR0 := Lib.hid hR
  clear hR hdu
  have HB := Lib.hid ((Below.refl w.heap.size w).alloc (Nat.le_refl _) (.cells #[.slice a1 n n1, .slice a2 m n2] 25))
  have HX := Lib.hid (Box.new w #[.slice a1 n n1, .slice a2 m n2] 25)
  go_enter Tryz.func65, Tryz.ntmps65
  go_wp2_with fail
  go_loopw [9, 10] (fun v i wr => ∃ k : Nat, k ≤ ln ∧ i = .int .i64 k ∧ Below w.heap.size w wr ∧ Box wr w.heap.size 25 [.slice a1 n n1, .slice a2 m n2] ∧ Own encI 1 3 wr (w.heap.size + 1) v ((L.take k).flatMap Pt.l) ∧ (if disL p src snk (L.drop k) ≠ 0 then disL p src snk (L.drop k) else if du = true then (9 : Int) else 0) = R) (fun _ i _ => ln - (intOf i).toNat)
  case atStart => exact ⟨0, by omega, rfl, HB.out, HX.out, Own.nil _ _ _ _ _, HR0.out⟩
  case round =>
    clear HB HX HR0
    obtain ⟨k, hk, rfl, hbe, hx, hown, hrel⟩ := hrel
    have HB1 := Lib.hid hbe
    have HX1 := Lib.hid hx
    have HO1 := Lib.hid hown
    have HR := Lib.hid hrel
    clear hbe hx hrel
    by_cases hlt : k < ln
    rotate_left
    · obtain rfl : ln = k := by omega
      have ho := HO1.out
      rw [List.take_of_length_le (by rw [HLN.out]; omega)] at ho
      have C126 := Lib.hid (twice126 _ _ wr (ho.toSl encI_len (by have := HFL.out; omega)))
      rw [HDU.out] at C126
      have HV := Lib.hid (show (if du = true then (9 : Int) else 0) = R by
        have h := HR.out
        rw [List.drop_of_length_le (by rw [HLN.out]; omega)] at h
        exact h)
      clear ho hown
      go_wp2_with fail
      refine (C126.out).mono ?_
      rintro e w4 ⟨rfl, hb⟩
      have HB4 := Lib.hid (HB1.out.trans (hb.mono HB1.out.size))
      clear hb
      cases du with
      | true =>
        go_wp2_with fail
        go_ret
        exact ⟨by rw [← HV.out]; rfl, HB4.out⟩
      | false =>
        go_wp2_with fail
        go_ret
        exact ⟨by rw [← HV.out]; rfl, HB4.out⟩
    have hkl : k < L.length := by rw [HLN.out]; exact hlt
    obtain ⟨b, off, rfl, hbb, hcells⟩ := HA.out (by omega)
    have c0 := ((hcells k hkl).below HB1.out hbb).c1
    rw [Nat.mul_one] at c0
    have hbz : b < wr.heap.size := Nat.lt_of_lt_of_le hbb HB1.out.size
    have HM := Lib.hid (List.getElem_mem hkl)
    have HT := Lib.hid (flat_take L k hkl)
    have HD := Lib.hid (show (if (if pathE p L[k].l ≠ 0 then pathE p L[k].l else if (!src.contains (L[k].l.getD 0 0) || !snk.contains (L[k].l.getD (L[k].l.length - 1) 0)) = true then 1 else disL p src snk (L.drop (k + 1))) ≠ 0 then (if pathE p L[k].l ≠ 0 then pathE p L[k].l else if (!src.contains (L[k].l.getD 0 0) || !snk.contains (L[k].l.getD (L[k].l.length - 1) 0)) = true then 1 else disL p src snk (L.drop (k + 1))) else if du = true then (9 : Int) else 0) = R from by
      have h := HR.out
      rw [disL_drop p src snk L k hkl] at h
      exact h)
    have hx80 := H80.out _ HM.out
    have hrd := HRD.out _ HM.out
    have K22 := Lib.hid (fun (X : Later wr) => C22.out X.w (HB1.out.trans (X.h.mono HB1.out.size)) L[k] HM.out)
    have DC := Lib.hid (hcells k hkl)
    clear hcells
    generalize L[k] = x at *
    obtain ⟨xa, xc, xl⟩ := x
    dsimp only at hx80 hrd c0 HD HT K22
    have HRX := Lib.hid hrd
    clear hrd
    obtain ⟨x0, x1, xf, xz⟩ := HX1.out.v2
    obtain ⟨ep, hep⟩ : ∃ c, pathE p xl = c := ⟨_, rfl⟩
    rw [hep] at K22 HD
    have HEP := Lib.hid hep
    clear hep
    obtain ⟨xn, hxn⟩ : ∃ n, xl.length = n := ⟨_, rfl⟩
    rw [hxn] at K22 HD c0 hx80 HRX
    have HXN := Lib.hid hxn
    clear hxn
    go_wp2_with fail
    refine wp_region_later (by kernel_rfl) (by kernel_rfl) ?_
    repeat go_big_quiet_step ((go_at_call 22; exact Calls.later (K22.out _)))
    refine wpQuiet_nil ?_
    rintro w2 ⟨⟨_, hb⟩, rfl⟩
    have HB2 := Lib.hid (HB1.out.trans (hb.mono HB1.out.size))
    have HX2 := Lib.hid (HX1.out.later hb)
    have HO2 := Lib.hid (HO1.out.later hb)
    clear hb c0 hbz x0 x1 xf xz
    by_cases h1 : ep = 0
    rotate_left
    · have k1 : (ep != 0) = true := by simpa using h1
      have HV := Lib.hid (show ep = R by
        have h := HD.out
        rw [if_pos (show ep ≠ 0 from h1), if_pos h1] at h
        exact h)
      clear h1
      go_wp2_with fail
      go_ret
      exact ⟨by rw [HV.out]; rfl, HB2.out⟩
    subst h1
    have hpa := PaV.of HEP.out
    have h2 := hpa.two
    rw [HXN.out] at h2
    clear hpa
    obtain ⟨a', c', e5, _, hAx⟩ := id HRX.out
    rw [HXN.out] at e5
    cases e5
    obtain ⟨bx, ox, rfl, hbx, hcx⟩ := hAx (by rw [HXN.out]; omega)
    have l0 := ((hcx 0 (by rw [HXN.out]; omega)).below HB2.out hbx).c1
    have l1 := ((hcx (xn - 1) (by rw [HXN.out]; omega)).below HB2.out hbx).c1
    rw [← getD_geI] at l0 l1
    rw [Nat.mul_one] at l0 l1
    rw [Nat.add_zero] at l0
    have c0 := (DC.out.below HB2.out hbb).c1
    rw [Nat.mul_one] at c0
    dsimp only at c0
    rw [HXN.out] at c0
    have hbz : b < w2.heap.size := Nat.lt_of_lt_of_le hbb HB2.out.size
    have hbxz : bx < w2.heap.size := Nat.lt_of_lt_of_le hbx HB2.out.size
    have k5 : IntKind.i64.wrap ((xn : Int) - 1) = ((xn - 1 : Nat) : Int) := by rw [IntWalk.i64_in _ (by omega)]; omega
    have k6 : ((xn - 1 : Nat) : Int) < (xn : Int) := by omega
    obtain ⟨z0, hz0⟩ : ∃ z, xl.getD 0 0 = z := ⟨_, rfl⟩
    obtain ⟨z1, hz1⟩ : ∃ z, xl.getD (xn - 1) 0 = z := ⟨_, rfl⟩
    rw [hz0] at l0 HD
    rw [hz1] at l1 HD
    have HCX := Lib.hid hcx
    clear hz0 hz1 hcx hAx
    obtain ⟨n6, hn6⟩ : ∃ n, xn - 1 = n := ⟨_, rfl⟩
    rw [hn6] at l1 k5 k6
    clear hn6
    have HK0 := Lib.hid (fun (X : Later w2) => C24.out X.w (HB2.out.trans (X.h.mono HB2.out.size)) z0)
    have HK1 := Lib.hid (fun (X : Later w2) => D24.out X.w (HB2.out.trans (X.h.mono HB2.out.size)) z1)
    obtain ⟨q0, hq0⟩ : ∃ q, src.contains z0 = q := ⟨_, rfl⟩
    obtain ⟨q1, hq1⟩ : ∃ q, snk.contains z1 = q := ⟨_, rfl⟩
    rw [hq0] at HK0 HD
    rw [hq1] at HK1 HD
    clear hq0 hq1
    have hxn0 : (0 : Int) < (xn : Int) := by omega
    cases q0 with
    | false =>
      have HV := Lib.hid (show (1 : Int) = R from HD.out)
      go_wp2_with fail
      refine wp_region_later (by kernel_rfl) (by kernel_rfl) ?_
      repeat go_big_quiet_step (fail)
      go_big_quiet_step ((go_at_call 24; exact Calls.later_same (HK0.out _)))
      repeat go_big_quiet_step (fail)
      refine wpQuiet_nil ?_
      rintro w3 ⟨⟨_, hb⟩, rfl⟩
      have HB3 := Lib.hid (HB2.out.trans (hb.mono HB2.out.size))
      go_wp2_with fail
      go_ret
      exact ⟨by rw [← HV.out]; rfl, HB3.out⟩
    | true =>
    cases q1 with
    | false =>
      have HV := Lib.hid (show (1 : Int) = R from HD.out)
      go_wp2_with fail
      refine wp_region_later (by kernel_rfl) (by kernel_rfl) ?_
      repeat go_big_quiet_step (fail)
      go_big_quiet_step ((go_at_call 24; exact Calls.later_same (HK0.out _)))
      repeat go_big_quiet_step (fail)
      go_big_quiet_step ((go_at_call 24; exact Calls.later_same (HK1.out _)))
      repeat go_big_quiet_step (fail)
      refine wpQuiet_nil ?_
      rintro w3 ⟨⟨_, hb⟩, rfl⟩
      have HB3 := Lib.hid (HB2.out.trans (hb.mono HB2.out.size))
      go_wp2_with fail
      go_ret
      exact ⟨by rw [← HV.out]; rfl, HB3.out⟩
    | true =>
      have HV := Lib.hid (show (if disL p src snk (L.drop (k + 1)) ≠ 0 then disL p src snk (L.drop (k + 1)) else if du = true then (9 : Int) else 0) = R from HD.out)
      go_wp2_with fail
      refine wp_region_later (by kernel_rfl) (by kernel_rfl) ?_
      repeat go_big_quiet_step (fail)
      go_big_quiet_step ((go_at_call 24; exact Calls.later_same (HK0.out _)))
      repeat go_big_quiet_step (fail)
      go_big_quiet_step ((go_at_call 24; exact Calls.later_same (HK1.out _)))
      repeat go_big_quiet_step (fail)
      refine wpQuiet_nil ?_
      rintro w3 ⟨⟨_, hb⟩, rfl⟩
      have HB3 := Lib.hid (HB2.out.trans (hb.mono HB2.out.size))
      have HX3 := Lib.hid (HX2.out.later hb)
      have HO3 := Lib.hid (HO2.out.later hb)
      obtain ⟨q3, hq3⟩ : ∃ q, (⟨bx, ox, none⟩ : Addr) = q := ⟨_, rfl⟩
      have c3 := (DC.out.below HB3.out hbb).c1
      rw [Nat.mul_one] at c3
      dsimp only at c3
      have HAT := Lib.hid (show ∀ i (h : i < xl.length), ∀ j u, (encI xl[i])[j]? = some u → w3.cell? (q3.add (i * 1 + j)) = some u from by
        intro i h j u hu
        subst hq3
        have h1 := ((HCX.out i h).below HB3.out hbx) j u hu
        rw [Addr.add_lit, ← Nat.add_assoc]
        exact h1)
      rw [hq3] at c3
      have hbz3 : b < w3.heap.size := Nat.lt_of_lt_of_le hbb HB3.out.size
      have HLK := Lib.hid (show ((L.take k).flatMap Pt.l).length + xl.length ≤ 2000000000 from by
        have h1 : ((L.take k).flatMap Pt.l).length ≤ 80 * (L.take k).length := flat_len fun t ht => H80.out t (List.mem_of_mem_take ht)
        have h2 : (L.take k).length ≤ k := by rw [List.length_take]; omega
        have := HXN.out
        omega)
      have HSZ := Lib.hid (show w.heap.size + 1 ≤ w3.heap.size from HX3.out.lt)
      clear hb l0 l1 c0 hbz hbxz k5 k6
      go_wp2_with (at_builtin; refine wpList_cat encI 1 8 26 3 _ Tryz.underlying26 infoI rfl (by decide) (by decide) encI_len encI_one ((L.take k).flatMap Pt.l) xl (w.heap.size + 1) w3 _ HO3.out HSZ.out HLK.out q3 _ HAT.out rfl _ _ rfl rfl rfl ?_; intro v' w' hown' hg')
      have HB4 := Lib.hid (grown_below HB3.out hg' HB3.out.size HO3.out.lt' (Nat.le_succ _))
      have HX4 := Lib.hid (HX3.out.kept hg' (HO3.out.ne (Nat.lt_succ_self _)))
      rw [← HT.out] at hown'
      go_wp2_with fail
      go_roundw
      case rel => exact ⟨k + 1, by omega, by go_num, HB4.out, HX4.out, hown', HV.out⟩
      case measure => simp [intOf]; omega
end Go.Proofs.YtahpdkkpnkhnhaaGreatDoor
/- Walks: the law PathBottlenecks. -/
namespace Go.Proofs.YtahpdkkpnkhnhaaGreatDoor
open Go Go.Proofs Go.RowKit Go.Shelf
theorem cutL_inc {p : Pl} {ord : List Nat} : (cutL p ord).Pairwise (fun a b => a < b) := by
  unfold cutL cutNs
  rw [List.pairwise_map]
  refine (List.Pairwise.sublist List.filter_sublist (List.pairwise_lt_range (n := p.ms.length))).imp ?_
  intro a b h
  omega
theorem bottle_law {p : Pl} {src snk : List Int} {rm : List Int} {n : Int} (hok : OkP p) (hoe : OkE p src snk) (hm : MostR p src snk rm n) :
    (∀ L, (∃ R n' ord, MaxF p src snk R n' ord ∧ Chns p src snk R L) → (L.length : Int) = n ∧ disE p src snk L = 0 ∧ L.length ≤ p.ms.length) ∧
    (∀ l, (∃ R n' ord, MaxF p src snk R n' ord ∧ l = cutL p ord) → (l.length : Int) = n ∧ cutB p src snk l = false ∧ (∀ x ∈ l, inN p.ms.length x = true) ∧ l.Pairwise (fun a b => a < b)) ∧
    (∀ k F T, RefM p src snk F T k → k = n) := by
  obtain ⟨ord, hx⟩ := hm.max hok hoe
  refine ⟨fun L h => ?_, fun l h => ?_, fun k F T h => ref_most hx.1 hx.2 h⟩
  · obtain ⟨R, n', ord', h1, h2⟩ := h
    obtain ⟨k1, k2⟩ := h2.ok h1.1
    have h3 := h1.unique hx
    refine ⟨by omega, k1, ?_⟩
    have h4 : L.length = (FlP.heads src R).length := by rw [← h2.hd, List.length_map]
    have h5 : (FlP.heads src R).Nodup := hoe.n1.sublist List.filter_sublist
    have h6 : ((FlP.heads src R).map Int.toNat).Nodup := by
      rw [List.nodup_iff_pairwise_ne, List.pairwise_map]
      refine List.Pairwise.imp_of_mem ?_ (List.nodup_iff_pairwise_ne.1 h5)
      intro a b ha hb hab e
      have k1 := inN_lt (hoe.in1 a (List.mem_filter.1 ha).1)
      have k2 := inN_lt (hoe.in1 b (List.mem_filter.1 hb).1)
      exact hab (by omega)
    have h7 : ((FlP.heads src R).map Int.toNat).length ≤ (List.range p.ms.length).length := h6.length_le_of_subset fun x hx => by
      obtain ⟨y, hy, rfl⟩ := List.mem_map.1 hx
      exact List.mem_range.2 (inN_lt (hoe.in1 y (List.mem_filter.1 hy).1)).1
    simp at h7
    omega
  · obtain ⟨R, n', ord', h1, rfl⟩ := h
    have h3 := h1.unique hx
    have h4 := h1.1.value_cut h1.2
    exact ⟨by omega, h1.1.cut_ok h1.2, cutL_in, cutL_inc⟩
set_option maxRecDepth 100000 in
set_option maxHeartbeats 4000000 in
theorem bottle9 (w : World) (a1 a2 s1 s2 : Option Addr) (n1 n2 m1 m2 c1 c2 d1 d2 : Nat) (p : Pl) (src snk : List Int) (hwd : WdR w) (hn1 : n1 ≤ 9223372036854775807) (hn2 : n2 ≤ 9223372036854775807)
    (hm1 : m1 ≤ 9223372036854775807) (hm2 : m2 ≤ 9223372036854775807)
    (hv : n1 ≤ 70 → n2 ≤ 260 → PlR w w.heap.size (.slice a1 n1 c1) (.slice a2 n2 c2) p ∧ p.ms.length = n1 ∧ p.arcs.length = n2 ∧ ∀ m ∈ p.ms, m.kind.size ≤ 9223372036854775807)
    (hs : m1 ≤ 80 → Sl encI 1 w w.heap.size (.slice s1 m1 d1) src) (ht : m2 ≤ 80 → Sl encI 1 w w.heap.size (.slice s2 m2 d2) snk) :
    Calls Tryz.prog 9 #[.agg #[.slice a1 n1 c1, .slice a2 n2 c2], .agg #[.slice s1 m1 d1, .slice s2 m2 d2]] w (Ret (.bool true) w) := by
  obtain ⟨g, hg⟩ : ∃ g, heavyB p n1 n2 [.slice s1 m1 d1, .slice s2 m2 d2] = g := ⟨_, rfl⟩
  have HH := Lib.hid (fun (w1 : World) (hb : Below w.heap.size w w1) (u : Option Addr) (hu : Sl Val1 1 w1 w1.heap.size (.slice u 2 2) [.slice s1 m1 d1, .slice s2 m2 d2]) => heavy17 w1 a1 a2 u n1 n2 2 c1 c2 2 p [.slice s1 m1 d1, .slice s2 m2 d2] hn1 hn2 (fun x y => ⟨(hv x y).1.later hb, (hv x y).2⟩) hu (by
    intro v hv
    simp only [List.mem_cons, List.not_mem_nil, or_false] at hv
    rcases hv with rfl | rfl
    · exact ⟨_, _, _, rfl, hm1⟩
    · exact ⟨_, _, _, rfl, hm2⟩))
  rw [hg] at HH
  have HG := Lib.hid hg
  have HWD := Lib.hid hwd
  have HV := Lib.hid hv
  have HLS := Lib.hid hs
  have HLT := Lib.hid ht
  clear hwd hv hs ht hg
  have HB := Lib.hid (((Below.refl w.heap.size w).alloc (Nat.le_refl _) (.cells #[.slice a1 n1 c1, .slice a2 n2 c2] 25)).alloc (by simp) (.cells #[.slice s1 m1 d1, .slice s2 m2 d2] 84))
  have HX := Lib.hid ((Box.new w #[.slice a1 n1 c1, .slice a2 n2 c2] 25).alloc (.cells #[.slice s1 m1 d1, .slice s2 m2 d2] 84))
  have HY := Lib.hid (Box.newAt (w.alloc (.cells #[.slice a1 n1 c1, .slice a2 n2 c2] 25)) #[.slice s1 m1 d1, .slice s2 m2 d2] 84 (by simp : _ = w.heap.size + 1))
  go_enter Tryz.func9, Tryz.ntmps9
  go_wp2_with fail
  refine (awake16 _ (HWD.out.later HB.out)).mono ?_
  rintro e2 w2 ⟨rfl, hb⟩
  have HB2 := Lib.hid (HB.out.trans (hb.mono HB.out.size))
  have HX2 := Lib.hid (HX.out.later hb)
  have HY2 := Lib.hid (HY.out.later hb)
  clear hb
  obtain ⟨x0, x1, xf, xz⟩ := HX2.out.v2
  obtain ⟨y0, y1, yf, yz⟩ := HY2.out.v2
  go_wp2_with fail
  have hb : Below w2.heap.size w2 (w2.alloc (.cells #[.slice s1 m1 d1, .slice s2 m2 d2] 26)) := (Below.refl _ _).alloc (Nat.le_refl _) _
  have HBa := Lib.hid (HB2.out.trans (hb.mono HB2.out.size))
  have HXa := Lib.hid (HX2.out.later hb)
  have HYa := Lib.hid (HY2.out.later hb)
  clear hb x0 x1 xf xz y0 y1 yf yz
  refine (HH.out _ HBa.out _ (Sl.lit (f := Val1) (sz := 1) (fun _ => rfl) [Value.slice s1 m1 d1, Value.slice s2 m2 d2] _ #[Value.slice s1 m1 d1, Value.slice s2 m2 d2] 26 2 rfl rfl (by simp))).mono ?_
  rintro e3 w3 ⟨rfl, hb⟩
  have HB3 := Lib.hid (HBa.out.trans (hb.mono HBa.out.size))
  have HX3 := Lib.hid (HXa.out.later hb)
  have HY3 := Lib.hid (HYa.out.later hb)
  clear hb HBa HXa HYa
  obtain ⟨x0, x1, xf, xz⟩ := HX3.out.v2
  obtain ⟨y0, y1, yf, yz⟩ := HY3.out.v2
  cases g with
  | true =>
    go_wp2_with fail
    refine (awake16 _ (HWD.out.later HB3.out)).mono ?_
    rintro e4 w4 ⟨rfl, hb⟩
    have HB4 := Lib.hid (HB3.out.trans (hb.mono HB3.out.size))
    have HX4 := Lib.hid (HX3.out.later hb)
    have HY4 := Lib.hid (HY3.out.later hb)
    clear hb x0 x1 xf xz y0 y1 yf yz HB3 HX3 HY3
    obtain ⟨x0, x1, xf, xz⟩ := HX4.out.v2
    obtain ⟨y0, y1, yf, yz⟩ := HY4.out.v2
    go_wp2_with fail
    go_ret
    exact ⟨rfl, HB4.out⟩
  | false =>
    obtain ⟨q1, q2, q3, _, q5⟩ := heavyB_no HG.out
    obtain ⟨hpl, hpm1, hpm2, _⟩ := HV.out q2 q3
    have hls := HLS.out (q1 (Value.slice s1 m1 d1) (by simp))
    have hlt := HLT.out (q1 (Value.slice s2 m2 d2) (by simp))
    have HPL := Lib.hid hpl
    have HS := Lib.hid hls
    have HTT := Lib.hid hlt
    have HPM1 := Lib.hid hpm1
    have hn70 := q2
    have HQ9 := Lib.hid q5
    clear hpl hls hlt hpm1 hpm2 q1 q2 q3 q5 HV HLS HLT HG HH
    have C60 := Lib.hid (fun (w1 : World) (hb : Below w.heap.size w w1) => most60 w1 _ _ _ _ p src snk (HWD.out.later hb) (HPL.out.later hb) (HS.out.later hb) (HTT.out.later hb))
    have C61 := Lib.hid (fun (w1 : World) (hb : Below w.heap.size w w1) => disjoint61 w1 _ _ _ _ p src snk (HWD.out.later hb) (HPL.out.later hb) (HS.out.later hb) (HTT.out.later hb))
    have C62 := Lib.hid (fun (w1 : World) (hb : Below w.heap.size w w1) => cut62 w1 _ _ _ _ p src snk (HWD.out.later hb) (HPL.out.later hb) (HS.out.later hb) (HTT.out.later hb))
    have C19 := Lib.hid (fun (w1 : World) (hb : Below w.heap.size w w1) => ckPlant19 w1 _ _ p (HPL.out.later hb))
    have C63 := Lib.hid (fun (w1 : World) (hb : Below w.heap.size w w1) => checkEnds63 w1 _ _ _ _ p src snk (HPL.out.later hb) (HS.out.later hb) (HTT.out.later hb))
    have C64 := Lib.hid (fun (w1 : World) (hb : Below w.heap.size w w1) => fun hok => most64 w1 _ _ _ _ p src snk (HPL.out.later hb) hok (HS.out.later hb) (HTT.out.later hb))
    have C65 := Lib.hid (fun (w1 : World) (hb : Below w.heap.size w w1) => fun v L (hu : PtR w1 w1.heap.size v L) h20 h80 => checkDisjoint65 w1 _ _ _ _ v p src snk L (HPL.out.later hb) (HS.out.later hb) (HTT.out.later hb) hu h20 h80)
    have C66 := Lib.hid (fun (w1 : World) (hb : Below w.heap.size w w1) => fun v c (hu : Sl encI 1 w1 w1.heap.size v c) hok he hin => isCut66 w1 _ _ _ _ v p src snk c (HPL.out.later hb) (HS.out.later hb) (HTT.out.later hb) hu hok he hin)
    unfold MostE at C60
    unfold DisP at C61
    unfold CutP at C62
    have HCB := Lib.hid (show ckPlant p = 0 → OkP p from ckPlant_ok)
    have HEB := Lib.hid (show endsE p src snk = 0 → OkE p src snk from endsE_ok)
    obtain ⟨BE, hBE⟩ : ∃ c, bothE p src snk = c := ⟨_, rfl⟩
    rw [hBE] at C60 C61 C62
    unfold bothE at hBE
    obtain ⟨ck, hck⟩ : ∃ c, ckPlant p = c := ⟨_, rfl⟩
    obtain ⟨en, hen⟩ : ∃ c, endsE p src snk = c := ⟨_, rfl⟩
    rw [hck, hen] at hBE
    rw [hck] at C19 HCB HQ9
    rw [hen] at C63 HEB
    clear hck hen
    by_cases h1 : ck = 0
    rotate_left
    · have k0 : (ck == 0) = false := beq_eq_false_iff_ne.2 h1
      have k1 : (ck != 0) = true := bne_iff_ne.2 h1
      have k2 : (ck == ck) = true := beq_self_eq_true _
      obtain rfl : ck = BE := by rw [if_pos h1] at hBE; exact hBE
      have HNE := Lib.hid h1
      clear h1 hBE C63 C64 C65 C66 HCB HEB
      go_wp2_with fail
      refine (C60.out _ HB3.out).mono ?_
      intro e5 w5 hh
      obtain ⟨n0, rfl, hz0, hg0, hb⟩ := id hh
      obtain rfl := hz0 HNE.out
      clear hz0 hg0
      clear hh
      have HB5 := Lib.hid (HB3.out.trans (hb.mono HB3.out.size))
      have HX5 := Lib.hid (HX3.out.later hb)
      have HY5 := Lib.hid (HY3.out.later hb)
      clear hb x0 x1 xf xz y0 y1 yf yz HB3 HX3 HY3
      obtain ⟨x0, x1, xf, xz⟩ := HX5.out.v2
      obtain ⟨y0, y1, yf, yz⟩ := HY5.out.v2
      go_wp2_with fail
      refine (C61.out _ HB5.out).mono ?_
      intro e6 w6 hh
      obtain ⟨v6, L6, rfl, hp6, hz6, hg6, h646, hb⟩ := id hh
      obtain rfl := hz6 HNE.out
      obtain ⟨a6, c6, rfl, _, _⟩ := hp6.sl
      clear hz6 hg6 hp6 h646
      clear hh
      have HB6 := Lib.hid (HB5.out.trans (hb.mono HB5.out.size))
      have HX6 := Lib.hid (HX5.out.later hb)
      have HY6 := Lib.hid (HY5.out.later hb)
      clear hb x0 x1 xf xz y0 y1 yf yz HB5 HX5 HY5
      obtain ⟨x0, x1, xf, xz⟩ := HX6.out.v2
      obtain ⟨y0, y1, yf, yz⟩ := HY6.out.v2
      go_wp2_with fail
      refine (C62.out _ HB6.out).mono ?_
      intro e7 w7 hh
      obtain ⟨v7, l7, rfl, hp7, hz7, hg7, hb⟩ := id hh
      obtain rfl := hz7 HNE.out
      obtain ⟨a7, c7, rfl, _, _⟩ := hp7
      clear hz7 hg7
      clear hh
      have HB7 := Lib.hid (HB6.out.trans (hb.mono HB6.out.size))
      have HX7 := Lib.hid (HX6.out.later hb)
      have HY7 := Lib.hid (HY6.out.later hb)
      clear hb x0 x1 xf xz y0 y1 yf yz HB6 HX6 HY6
      obtain ⟨x0, x1, xf, xz⟩ := HX7.out.v2
      obtain ⟨y0, y1, yf, yz⟩ := HY7.out.v2
      go_wp2_with fail
      refine (C19.out _ HB7.out).mono ?_
      rintro e8 w8 ⟨rfl, hb⟩
      have HB8 := Lib.hid (HB7.out.trans (hb.mono HB7.out.size))
      have HX8 := Lib.hid (HX7.out.later hb)
      have HY8 := Lib.hid (HY7.out.later hb)
      clear hb x0 x1 xf xz y0 y1 yf yz HB7 HX7 HY7
      obtain ⟨x0, x1, xf, xz⟩ := HX8.out.v2
      obtain ⟨y0, y1, yf, yz⟩ := HY8.out.v2
      go_wp2_with fail
      go_ret
      exact ⟨rfl, HB8.out⟩
    subst h1
    obtain rfl : en = BE := by simpa using hBE
    by_cases h1 : en = 0
    rotate_left
    · have k0 : (en == 0) = false := beq_eq_false_iff_ne.2 h1
      have k1 : (en != 0) = true := bne_iff_ne.2 h1
      have k2 : (en == en) = true := beq_self_eq_true _
      have HNE := Lib.hid h1
      clear h1 hBE C64 C65 C66 HCB HEB
      go_wp2_with fail
      refine (C60.out _ HB3.out).mono ?_
      intro e9 w9 hh
      obtain ⟨n0, rfl, hz0, hg0, hb⟩ := id hh
      obtain rfl := hz0 HNE.out
      clear hz0 hg0
      clear hh
      have HB9 := Lib.hid (HB3.out.trans (hb.mono HB3.out.size))
      have HX9 := Lib.hid (HX3.out.later hb)
      have HY9 := Lib.hid (HY3.out.later hb)
      clear hb x0 x1 xf xz y0 y1 yf yz HB3 HX3 HY3
      obtain ⟨x0, x1, xf, xz⟩ := HX9.out.v2
      obtain ⟨y0, y1, yf, yz⟩ := HY9.out.v2
      go_wp2_with fail
      refine (C61.out _ HB9.out).mono ?_
      intro e10 w10 hh
      obtain ⟨v6, L6, rfl, hp6, hz6, hg6, h646, hb⟩ := id hh
      obtain rfl := hz6 HNE.out
      obtain ⟨a6, c6, rfl, _, _⟩ := hp6.sl
      clear hz6 hg6 hp6 h646
      clear hh
      have HB10 := Lib.hid (HB9.out.trans (hb.mono HB9.out.size))
      have HX10 := Lib.hid (HX9.out.later hb)
      have HY10 := Lib.hid (HY9.out.later hb)
      clear hb x0 x1 xf xz y0 y1 yf yz HB9 HX9 HY9
      obtain ⟨x0, x1, xf, xz⟩ := HX10.out.v2
      obtain ⟨y0, y1, yf, yz⟩ := HY10.out.v2
      go_wp2_with fail
      refine (C62.out _ HB10.out).mono ?_
      intro e11 w11 hh
      obtain ⟨v7, l7, rfl, hp7, hz7, hg7, hb⟩ := id hh
      obtain rfl := hz7 HNE.out
      obtain ⟨a7, c7, rfl, _, _⟩ := hp7
      clear hz7 hg7
      clear hh
      have HB11 := Lib.hid (HB10.out.trans (hb.mono HB10.out.size))
      have HX11 := Lib.hid (HX10.out.later hb)
      have HY11 := Lib.hid (HY10.out.later hb)
      clear hb x0 x1 xf xz y0 y1 yf yz HB10 HX10 HY10
      obtain ⟨x0, x1, xf, xz⟩ := HX11.out.v2
      obtain ⟨y0, y1, yf, yz⟩ := HY11.out.v2
      go_wp2_with fail
      refine (C19.out _ HB11.out).mono ?_
      rintro e12 w12 ⟨rfl, hb⟩
      have HB12 := Lib.hid (HB11.out.trans (hb.mono HB11.out.size))
      have HX12 := Lib.hid (HX11.out.later hb)
      have HY12 := Lib.hid (HY11.out.later hb)
      clear hb x0 x1 xf xz y0 y1 yf yz HB11 HX11 HY11
      obtain ⟨x0, x1, xf, xz⟩ := HX12.out.v2
      obtain ⟨y0, y1, yf, yz⟩ := HY12.out.v2
      go_wp2_with fail
      refine (C63.out _ HB12.out).mono ?_
      rintro e13 w13 ⟨rfl, hb⟩
      have HB13 := Lib.hid (HB12.out.trans (hb.mono HB12.out.size))
      have HX13 := Lib.hid (HX12.out.later hb)
      have HY13 := Lib.hid (HY12.out.later hb)
      clear hb x0 x1 xf xz y0 y1 yf yz HB12 HX12 HY12
      obtain ⟨x0, x1, xf, xz⟩ := HX13.out.v2
      obtain ⟨y0, y1, yf, yz⟩ := HY13.out.v2
      go_wp2_with fail
      go_ret
      exact ⟨rfl, HB13.out⟩
    subst h1
    have HOK := Lib.hid (HCB.out rfl)
    have HOE := Lib.hid (HEB.out rfl)
    obtain ⟨hq9, _⟩ := HQ9.out rfl
    clear HCB HEB hBE HQ9
    go_wp2_with fail
    refine (C60.out _ HB3.out).mono ?_
    intro e14 w14 hh
    obtain ⟨n0, rfl, hz0, hg0, hb⟩ := id hh
    obtain ⟨rm, hr⟩ := hg0 (by first | rfl | trivial)
    obtain ⟨hl1, hl2, hl3⟩ := bottle_law HOK.out HOE.out hr
    have HL1 := Lib.hid hl1
    have HL2 := Lib.hid hl2
    have HL3 := Lib.hid hl3
    clear hz0 hg0 hr hl1 hl2 hl3
    clear hh
    have HB14 := Lib.hid (HB3.out.trans (hb.mono HB3.out.size))
    have HX14 := Lib.hid (HX3.out.later hb)
    have HY14 := Lib.hid (HY3.out.later hb)
    clear hb x0 x1 xf xz y0 y1 yf yz HB3 HX3 HY3
    obtain ⟨x0, x1, xf, xz⟩ := HX14.out.v2
    obtain ⟨y0, y1, yf, yz⟩ := HY14.out.v2
    go_wp2_with fail
    refine (C61.out _ HB14.out).mono ?_
    intro e15 w15 hh
    obtain ⟨v6, L6, rfl, hp6, hz6, hg6, h646, hb⟩ := id hh
    obtain ⟨r1, r2, r3⟩ := HL1.out L6 (hg6 (by first | rfl | trivial))
    obtain ⟨nn, hnn⟩ : ∃ n, L6.length = n := ⟨_, rfl⟩
    rw [hnn] at r1 r3
    subst r1
    obtain ⟨a6, c6, hv6, _, _⟩ := id hp6.sl
    rw [hnn] at hv6
    subst hv6
    have HP6 := Lib.hid hp6
    have HD6 := Lib.hid r2
    have H64 := Lib.hid h646
    have HN6 := Lib.hid hnn
    have hnn9 : nn ≤ 9 := by rw [HPM1.out] at r3; omega
    clear hz6 hg6 hp6 h646 r2 r3 hnn HL1
    clear hh
    have HB15 := Lib.hid (HB14.out.trans (hb.mono HB14.out.size))
    have HX15 := Lib.hid (HX14.out.later hb)
    have HY15 := Lib.hid (HY14.out.later hb)
    clear hb x0 x1 xf xz y0 y1 yf yz HB14 HX14 HY14
    obtain ⟨x0, x1, xf, xz⟩ := HX15.out.v2
    obtain ⟨y0, y1, yf, yz⟩ := HY15.out.v2
    go_wp2_with fail
    refine (C62.out _ HB15.out).mono ?_
    intro e16 w16 hh
    obtain ⟨v7, l7, rfl, hp7, hz7, hg7, hb⟩ := id hh
    obtain ⟨r1, r2, r3, r4⟩ := HL2.out l7 (hg7 (by first | rfl | trivial))
    obtain ⟨a7, c7, hv7, _, _⟩ := id hp7
    have hn7 : l7.length = nn := by omega
    rw [hn7] at hv7
    subst hv7
    have HP7 := Lib.hid hp7
    have HC7 := Lib.hid r2
    have HI7 := Lib.hid r3
    have HU7 := Lib.hid r4
    have HN7 := Lib.hid hn7
    clear hz7 hg7 hp7 r1 r2 r3 r4 hn7 HL2
    clear hh
    have HB16 := Lib.hid (HB15.out.trans (hb.mono HB15.out.size))
    have HX16 := Lib.hid (HX15.out.later hb)
    have HY16 := Lib.hid (HY15.out.later hb)
    have HP6n := Lib.hid (HP6.out.later hb)
    clear HP6
    have HP6 := HP6n
    clear HP6n
    clear hb x0 x1 xf xz y0 y1 yf yz HB15 HX15 HY15
    obtain ⟨x0, x1, xf, xz⟩ := HX16.out.v2
    obtain ⟨y0, y1, yf, yz⟩ := HY16.out.v2
    go_wp2_with fail
    refine (C19.out _ HB16.out).mono ?_
    rintro e17 w17 ⟨rfl, hb⟩
    have HB17 := Lib.hid (HB16.out.trans (hb.mono HB16.out.size))
    have HX17 := Lib.hid (HX16.out.later hb)
    have HY17 := Lib.hid (HY16.out.later hb)
    have HP6n := Lib.hid (HP6.out.later hb)
    clear HP6
    have HP6 := HP6n
    clear HP6n
    have HP7n := Lib.hid (HP7.out.later hb)
    clear HP7
    have HP7 := HP7n
    clear HP7n
    clear hb x0 x1 xf xz y0 y1 yf yz HB16 HX16 HY16
    obtain ⟨x0, x1, xf, xz⟩ := HX17.out.v2
    obtain ⟨y0, y1, yf, yz⟩ := HY17.out.v2
    go_wp2_with fail
    refine (C63.out _ HB17.out).mono ?_
    rintro e18 w18 ⟨rfl, hb⟩
    have HB18 := Lib.hid (HB17.out.trans (hb.mono HB17.out.size))
    have HX18 := Lib.hid (HX17.out.later hb)
    have HY18 := Lib.hid (HY17.out.later hb)
    have HP6n := Lib.hid (HP6.out.later hb)
    clear HP6
    have HP6 := HP6n
    clear HP6n
    have HP7n := Lib.hid (HP7.out.later hb)
    clear HP7
    have HP7 := HP7n
    clear HP7n
    clear hb x0 x1 xf xz y0 y1 yf yz HB17 HX17 HY17
    obtain ⟨x0, x1, xf, xz⟩ := HX18.out.v2
    obtain ⟨y0, y1, yf, yz⟩ := HY18.out.v2
    go_wp2_with fail
    refine (C64.out _ HB18.out HOK.out).mono ?_
    intro e19 w19 hh
    obtain ⟨k4, F4, T4, rfl, hr4, hb⟩ := id hh
    obtain rfl := HL3.out k4 F4 T4 hr4
    clear hr4
    clear hh
    have HB19 := Lib.hid (HB18.out.trans (hb.mono HB18.out.size))
    have HX19 := Lib.hid (HX18.out.later hb)
    have HY19 := Lib.hid (HY18.out.later hb)
    have HP6n := Lib.hid (HP6.out.later hb)
    clear HP6
    have HP6 := HP6n
    clear HP6n
    have HP7n := Lib.hid (HP7.out.later hb)
    clear HP7
    have HP7 := HP7n
    clear HP7n
    clear hb x0 x1 xf xz y0 y1 yf yz HB18 HX18 HY18
    obtain ⟨x0, x1, xf, xz⟩ := HX19.out.v2
    obtain ⟨y0, y1, yf, yz⟩ := HY19.out.v2
    go_wp2_with fail
    clear x0 x1 xf xz y0 y1 yf yz
    go_loopw [13] (fun i wr => ∃ k : Nat, k ≤ nn ∧ i = .int .i64 k ∧ Below w19.heap.size w19 wr) (fun i _ => nn - (intOf i).toNat)
    case atStart => exact ⟨0, by omega, rfl, Below.refl _ _⟩
    case round =>
      obtain ⟨k, hk, rfl, hbe⟩ := hrel
      have HBG := Lib.hid (HB19.out.trans (hbe.mono HB19.out.size))
      have HXG := Lib.hid (HX19.out.later hbe)
      have HYG := Lib.hid (HY19.out.later hbe)
      have HP6G := Lib.hid (HP6.out.later hbe)
      have HP7G := Lib.hid (HP7.out.later hbe)
      have HBJ := Lib.hid hbe
      clear hbe
      obtain ⟨x0, x1, xf, xz⟩ := HXG.out.v2
      obtain ⟨y0, y1, yf, yz⟩ := HYG.out.v2
      by_cases hlt : k < nn
      rotate_left
      · obtain rfl : nn = k := by omega
        clear HP6 HP7
        have HP6 := HP6G
        have HP7 := HP7G
        clear HP6G HP7G
        go_wp2_with fail
        refine (C65.out _ HBG.out _ L6 HP6.out (by rw [HN6.out]; omega) (fun t ht => by have := H64.out t ht; omega)).mono ?_
        intro e20 w20 hh
        obtain ⟨rfl, hb⟩ := id hh
        rw [HD6.out]
        clear hh
        have HB20 := Lib.hid (HBG.out.trans (hb.mono HBG.out.size))
        have HX20 := Lib.hid (HXG.out.later hb)
        have HY20 := Lib.hid (HYG.out.later hb)
        have HP6n := Lib.hid (HP6.out.later hb)
        clear HP6
        have HP6 := HP6n
        clear HP6n
        have HP7n := Lib.hid (HP7.out.later hb)
        clear HP7
        have HP7 := HP7n
        clear HP7n
        clear hb x0 x1 xf xz y0 y1 yf yz HBG HXG HYG
        obtain ⟨x0, x1, xf, xz⟩ := HX20.out.v2
        obtain ⟨y0, y1, yf, yz⟩ := HY20.out.v2
        go_wp2_with fail
        refine (C66.out _ HB20.out _ l7 HP7.out HOK.out HOE.out (fun x hx => by rcases hx with h | h; exact HOE.out.in1 x h; exact HOE.out.in2 x h)).mono ?_
        intro e21 w21 hh
        obtain ⟨rfl, hb⟩ := id hh
        rw [HC7.out]
        clear hh
        have HB21 := Lib.hid (HB20.out.trans (hb.mono HB20.out.size))
        have HX21 := Lib.hid (HX20.out.later hb)
        have HY21 := Lib.hid (HY20.out.later hb)
        have HP6n := Lib.hid (HP6.out.later hb)
        clear HP6
        have HP6 := HP6n
        clear HP6n
        have HP7n := Lib.hid (HP7.out.later hb)
        clear HP7
        have HP7 := HP7n
        clear HP7n
        clear hb x0 x1 xf xz y0 y1 yf yz HB20 HX20 HY20
        obtain ⟨x0, x1, xf, xz⟩ := HX21.out.v2
        obtain ⟨y0, y1, yf, yz⟩ := HY21.out.v2
        go_wp2_with fail
        go_ret
        exact ⟨rfl, HB21.out⟩
      have hkl : k < l7.length := by rw [HN7.out]; exact hlt
      obtain ⟨ya, yc, e5, _, hAs⟩ := id HP7G.out
      rw [HN7.out] at e5
      cases e5
      obtain ⟨bu, ou, rfl, hbbu, hcu⟩ := hAs (by omega)
      have s0 := (hcu k hkl).c1
      rw [Nat.mul_one] at s0
      have hxi := HI7.out _ (List.getElem_mem hkl)
      unfold inN at hxi
      rw [HPM1.out] at hxi
      simp only [Bool.and_eq_true, decide_eq_true_eq] at hxi
      obtain ⟨hx0, hx1⟩ := hxi
      by_cases hk0 : k = 0
      · subst hk0
        rw [Nat.add_zero] at s0
        clear hcu hAs
        generalize l7[0] = x at *
        have d5 : decide (x < 0) = false := decide_eq_false (by omega)
        have d6 : decide ((n1 : Int) ≤ x) = false := decide_eq_false (by omega)
        go_wp2_with fail
        go_quiet (fail)
        go_wp2_with fail
        go_roundw
        case rel => exact ⟨0 + 1, by omega, by go_num, HBJ.out.trans ((below_drewN (Below.refl _ _) nq).mono HBJ.out.size)⟩
        case measure => simp [intOf]; omega
      have hkp : k - 1 < l7.length := by omega
      have s1' := (hcu (k - 1) hkp).c1
      rw [Nat.mul_one] at s1'
      have hinc := List.pairwise_iff_getElem.1 HU7.out (k - 1) k hkp hkl (by omega)
      have k5 : IntKind.i64.wrap ((k : Int) - 1) = ((k - 1 : Nat) : Int) := by rw [IntWalk.i64_in _ (by omega)]; omega
      have k6 : ((k - 1 : Nat) : Int) < (nn : Int) := by omega
      have k7 : k - 1 < nn := by omega
      have d4 : decide ((0 : Int) < (k : Int)) = true := decide_eq_true (by omega)
      have d4' : decide (0 < k) = true := decide_eq_true (by omega)
      clear hcu hAs
      generalize l7[k] = x at *
      generalize l7[k - 1] = y at *
      generalize k - 1 = k' at *
      have d5 : decide (x < 0) = false := decide_eq_false (by omega)
      have d6 : decide ((n1 : Int) ≤ x) = false := decide_eq_false (by omega)
      have d7 : decide (x ≤ y) = false := decide_eq_false (by omega)
      go_wp2_with fail
      go_quiet (fail)
      go_wp2_with fail
      go_roundw
      case rel => exact ⟨k + 1, by omega, by go_num, HBJ.out.trans ((below_drewN (Below.refl _ _) nq).mono HBJ.out.size)⟩
      case measure => simp [intOf]; omega
end Go.Proofs.YtahpdkkpnkhnhaaGreatDoor
