/- Lemmas on the way to the law PathClaims (part 4): Tc Tf Tg Th Ti Jc -/
import Derived.Test.YtahpdkkpnkhnhaaGreatDoorPathClaimsP03
import Derived.Lib.AppendZeros
import Derived.Test.YtahpdkkpnkhnhaaGreatDoorLib29
import Derived.Test.YtahpdkkpnkhnhaaGreatDoorPathClaimsP02
set_option linter.unusedVariables false
set_option linter.unusedSimpArgs false

/- Walks: CheckEnds of the reference. -/
namespace Go.Proofs.YtahpdkkpnkhnhaaGreatDoor
open Go Go.Proofs Go.RowKit Go.Shelf
theorem any_both (a b : List Int) : a.any (fun x => b.contains x) = b.any (fun x => a.contains x) := by
  rw [Bool.eq_iff_iff, List.any_eq_true, List.any_eq_true]
  constructor <;> (rintro ⟨x, h1, h2⟩; exact ⟨x, by simpa using h2, by simpa using h1⟩)
set_option maxRecDepth 100000 in
set_option maxHeartbeats 1000000 in
theorem checkEnds63 (w : World) (v1 v2 s t : Value) (p : Pl) (src snk : List Int) (hv : PlR w w.heap.size v1 v2 p) (hs : Sl encI 1 w w.heap.size s src) (ht : Sl encI 1 w w.heap.size t snk) :
    Calls Tryz.prog 63 #[.agg #[v1, v2], s, t] w (Ret (.int .i64 (endsE p src snk)) w) := by
  have C1 := Lib.hid (fun (w1 : World) (hb : Below w.heap.size w w1) => ends123 w1 v1 v2 s false p src (hv.later hb) (hs.later hb))
  have C2 := Lib.hid (fun (w1 : World) (hb : Below w.heap.size w w1) => ends123 w1 v1 v2 t true p snk (hv.later hb) (ht.later hb))
  have C3 := Lib.hid (fun (w1 : World) (hb : Below w.heap.size w w1) (x : Int) => in24 t snk x w1 (ht.later hb))
  obtain ⟨a1, n1, a2, n2, rfl, rfl⟩ := hv.agg
  obtain ⟨a, c, rfl, hlen, hA⟩ := hs
  have HA := Lib.hid hA
  clear hA hv ht
  obtain ⟨hl, hlc⟩ := hlen
  obtain ⟨n, hn⟩ : ∃ n, p.ms.length = n := ⟨_, rfl⟩
  obtain ⟨m, hm⟩ : ∃ m, p.arcs.length = m := ⟨_, rfl⟩
  obtain ⟨ln, hll⟩ : ∃ m, src.length = m := ⟨_, rfl⟩
  obtain ⟨R, hR⟩ : ∃ R, endsE p src snk = R := ⟨_, rfl⟩
  rw [hR]
  unfold endsE at hR
  rw [any_both] at hR
  obtain ⟨E1, hE1⟩ : ∃ e, endE p bgB src = e := ⟨_, rfl⟩
  obtain ⟨E2, hE2⟩ : ∃ e, endE p enB snk = e := ⟨_, rfl⟩
  rw [hE1, hE2] at hR
  rw [show endE p (endF false) src = E1 from hE1] at C1
  rw [show endE p (endF true) snk = E2 from hE2] at C2
  clear hE1 hE2
  rw [hn] at C1 C2 ⊢
  rw [hm] at C1 C2 ⊢
  rw [hll] at C1 hl hlc ⊢
  have HLN := Lib.hid hll
  clear hn hm hll
  have HB := Lib.hid ((Below.refl w.heap.size w).alloc (Nat.le_refl _) (.cells #[.slice a1 n n1, .slice a2 m n2] 25))
  have HX := Lib.hid (Box.new w #[.slice a1 n n1, .slice a2 m n2] 25)
  by_cases h1 : E1 = 0
  rotate_left
  · have k1 : (E1 == 0) = false := beq_eq_false_iff_ne.2 h1
    have hR0 : (if E1 = 0 then (if (src.drop 0).any (fun x => snk.contains x) = true then (9 : Int) else 0) else E1) = R := by rw [if_neg h1, ← hR, if_pos h1]
    clear h1
    go_enter Tryz.func63, Tryz.ntmps63
    go_wp2_with fail
    refine (C1.out _ HB.out).mono ?_
    rintro e w2 ⟨rfl, hb⟩
    have HB2 := Lib.hid (HB.out.trans (hb.mono HB.out.size))
    clear hb HX
    have HR0 := Lib.hid hR0
    clear hR hR0
    go_wp2_with fail
    go_loopw [7, 8] (fun e i wr => ∃ k : Nat, k ≤ ln ∧ i = .int .i64 k ∧ Below w.heap.size w wr ∧ ∃ E : Int, e = .int .i64 E ∧ (if E = 0 then (if (src.drop k).any (fun x => snk.contains x) = true then (9 : Int) else 0) else E) = R) (fun _ i _ => ln - (intOf i).toNat)
    case atStart => exact ⟨0, by omega, rfl, HB2.out, _, rfl, HR0.out⟩
    case round =>
      clear HR0
      obtain ⟨k, hk, rfl, hbe, E, rfl, hrel⟩ := hrel
      have HR := Lib.hid hrel
      have HBE := Lib.hid hbe
      clear hbe hrel
      by_cases hlt : k < ln
      rotate_left
      · obtain rfl : ln = k := by omega
        have HV := Lib.hid (show E = R by
          have h := HR.out
          rw [List.drop_of_length_le (by rw [HLN.out]; omega)] at h
          split at h
          · rename_i h0; rw [h0, ← h]; rfl
          · exact h)
        go_wp2_with fail
        go_ret
        exact ⟨by rw [HV.out]; rfl, HBE.out⟩
      by_cases hE : E = 0
      rotate_left
      · have k1 : (E == 0) = false := beq_eq_false_iff_ne.2 hE
        have HV := Lib.hid (show E = R by have h := HR.out; rw [if_neg hE] at h; exact h)
        clear hE
        go_wp2_with fail
        go_ret
        exact ⟨by rw [HV.out]; rfl, HBE.out⟩
      subst hE
      have hkl : k < src.length := by rw [HLN.out]; exact hlt
      obtain ⟨bb, off, rfl, hbb, hcells⟩ := HA.out (by omega)
      have c0 := ((hcells k hkl).below HBE.out hbb).c1
      rw [Nat.mul_one] at c0
      have hbz : bb < wr.heap.size := Nat.lt_of_lt_of_le hbb HBE.out.size
      have HD := Lib.hid (show (if (snk.contains src[k] || (src.drop (k + 1)).any (fun x => snk.contains x)) = true then (9 : Int) else 0) = R from by
        have h := HR.out
        rw [if_pos rfl, List.drop_eq_getElem_cons hkl, List.any_cons] at h
        exact h)
      have C3k := Lib.hid (fun w1 hb => C3.out w1 hb src[k])
      clear hcells
      generalize src[k] = x at *
      obtain ⟨q, hq⟩ : ∃ q, snk.contains x = q := ⟨_, rfl⟩
      rw [hq] at C3k HD
      clear hq
      go_wp2_with fail
      refine (C3k.out _ HBE.out).mono ?_
      rintro e6 w6 ⟨rfl, rfl⟩
      cases q with
      | true =>
        go_wp2_with fail
        go_roundw
        case rel => exact ⟨k + 1, by omega, by go_num, HBE.out, 9, rfl, by rw [if_neg (by decide), ← HD.out]; rfl⟩
        case measure => simp [intOf]; omega
      | false =>
        go_wp2_with fail
        go_roundw
        case rel => exact ⟨k + 1, by omega, by go_num, HBE.out, 0, rfl, by rw [if_pos rfl, ← HD.out]; rfl⟩
        case measure => simp [intOf]; omega
  subst h1
  rw [if_neg (by simp)] at hR
  have hR0 : (if E2 = 0 then (if (src.drop 0).any (fun x => snk.contains x) = true then (9 : Int) else 0) else E2) = R := by
    rw [List.drop_zero, ← hR]
    by_cases h2 : E2 = 0
    · rw [if_pos h2, if_neg (show ¬ E2 ≠ 0 by simpa using h2)]
    · rw [if_neg h2, if_pos h2]
  go_enter Tryz.func63, Tryz.ntmps63
  go_wp2_with fail
  refine (C1.out _ HB.out).mono ?_
  rintro e w2 ⟨rfl, hb⟩
  have HB2 := Lib.hid (HB.out.trans (hb.mono HB.out.size))
  have HX2 := Lib.hid (HX.out.later hb)
  clear hb HX
  obtain ⟨x0, x1, xf, xz⟩ := HX2.out.v2
  go_wp2_with fail
  refine (C2.out _ HB2.out).mono ?_
  rintro e w3 ⟨rfl, hb⟩
  have HB3 := Lib.hid (HB2.out.trans (hb.mono HB2.out.size))
  clear hb x0 x1 xf xz
  have HR0 := Lib.hid hR0
  clear hR hR0
  go_wp2_with fail
  go_loopw [7, 8] (fun e i wr => ∃ k : Nat, k ≤ ln ∧ i = .int .i64 k ∧ Below w.heap.size w wr ∧ ∃ E : Int, e = .int .i64 E ∧ (if E = 0 then (if (src.drop k).any (fun x => snk.contains x) = true then (9 : Int) else 0) else E) = R) (fun _ i _ => ln - (intOf i).toNat)
  case atStart => exact ⟨0, by omega, rfl, HB3.out, _, rfl, HR0.out⟩
  case round =>
    clear HR0
    obtain ⟨k, hk, rfl, hbe, E, rfl, hrel⟩ := hrel
    have HR := Lib.hid hrel
    have HBE := Lib.hid hbe
    clear hbe hrel
    by_cases hlt : k < ln
    rotate_left
    · obtain rfl : ln = k := by omega
      have HV := Lib.hid (show E = R by
        have h := HR.out
        rw [List.drop_of_length_le (by rw [HLN.out]; omega)] at h
        split at h
        · rename_i h0; rw [h0, ← h]; rfl
        · exact h)
      go_wp2_with fail
      go_ret
      exact ⟨by rw [HV.out]; rfl, HBE.out⟩
    by_cases hE : E = 0
    rotate_left
    · have k1 : (E == 0) = false := beq_eq_false_iff_ne.2 hE
      have HV := Lib.hid (show E = R by have h := HR.out; rw [if_neg hE] at h; exact h)
      clear hE
      go_wp2_with fail
      go_ret
      exact ⟨by rw [HV.out]; rfl, HBE.out⟩
    subst hE
    have hkl : k < src.length := by rw [HLN.out]; exact hlt
    obtain ⟨bb, off, rfl, hbb, hcells⟩ := HA.out (by omega)
    have c0 := ((hcells k hkl).below HBE.out hbb).c1
    rw [Nat.mul_one] at c0
    have hbz : bb < wr.heap.size := Nat.lt_of_lt_of_le hbb HBE.out.size
    have HD := Lib.hid (show (if (snk.contains src[k] || (src.drop (k + 1)).any (fun x => snk.contains x)) = true then (9 : Int) else 0) = R from by
      have h := HR.out
      rw [if_pos rfl, List.drop_eq_getElem_cons hkl, List.any_cons] at h
      exact h)
    have C3k := Lib.hid (fun w1 hb => C3.out w1 hb src[k])
    clear hcells
    generalize src[k] = x at *
    obtain ⟨q, hq⟩ : ∃ q, snk.contains x = q := ⟨_, rfl⟩
    rw [hq] at C3k HD
    clear hq
    go_wp2_with fail
    refine (C3k.out _ HBE.out).mono ?_
    rintro e6 w6 ⟨rfl, rfl⟩
    cases q with
    | true =>
      go_wp2_with fail
      go_roundw
      case rel => exact ⟨k + 1, by omega, by go_num, HBE.out, 9, rfl, by rw [if_neg (by decide), ← HD.out]; rfl⟩
      case measure => simp [intOf]; omega
    | false =>
      go_wp2_with fail
      go_roundw
      case rel => exact ⟨k + 1, by omega, by go_num, HBE.out, 0, rfl, by rw [if_pos rfl, ← HD.out]; rfl⟩
      case measure => simp [intOf]; omega
end Go.Proofs.YtahpdkkpnkhnhaaGreatDoor

/- Walks: CheckDisjoint of the reference. -/
namespace Go.Proofs.YtahpdkkpnkhnhaaGreatDoor
open Go Go.Proofs Go.RowKit Go.Shelf
theorem flat_len {L : List Pt} (h : ∀ t ∈ L, t.l.length ≤ 80) : (L.flatMap Pt.l).length ≤ 80 * L.length := by
  induction L with
  | nil => simp
  | cons t r ih =>
    rw [List.flatMap_cons, List.length_append, List.length_cons]
    have h1 := h t (by simp)
    have h2 := ih fun x hx => h x (by simp [hx])
    omega
theorem flat_take (L : List Pt) (k : Nat) (h : k < L.length) : (L.take (k + 1)).flatMap Pt.l = (L.take k).flatMap Pt.l ++ L[k].l := by
  rw [List.take_add_one, List.getElem?_eq_getElem h, List.flatMap_append]
  simp
set_option maxRecDepth 100000 in
set_option maxHeartbeats 2000000 in
theorem checkDisjoint65 (w : World) (v1 v2 s t u : Value) (p : Pl) (src snk : List Int) (L : List Pt) (hv : PlR w w.heap.size v1 v2 p) (hs : Sl encI 1 w w.heap.size s src) (ht : Sl encI 1 w w.heap.size t snk) (hu : PtR w w.heap.size u L) (h20 : L.length ≤ 20) (h80 : ∀ t ∈ L, t.l.length ≤ 80) :
    Calls Tryz.prog 65 #[.agg #[v1, v2], s, t, u] w (Ret (.int .i64 (disE p src snk L)) w) := by
  have C22 := Lib.hid (fun (w1 : World) (hb : Below w.heap.size w w1) (x : Pt) (hx : x ∈ L) => checkPath22 w1 v1 v2 _ p x.l (hv.later hb) ((hu.rd x hx).later hb))
  have C24 := Lib.hid (fun (w1 : World) (hb : Below w.heap.size w w1) (x : Int) => in24 s src x w1 (hs.later hb))
  have D24 := Lib.hid (fun (w1 : World) (hb : Below w.heap.size w w1) (x : Int) => in24 t snk x w1 (ht.later hb))
  have HRD := Lib.hid hu.rd
  have HFL := Lib.hid (flat_len h80)
  have H80 := Lib.hid h80
  obtain ⟨a1, n1, a2, n2, rfl, rfl⟩ := hv.agg
  obtain ⟨a, c, rfl, hlen, hA⟩ := hu.sl
  have HA := Lib.hid hA
  clear hA hv hu hs ht h80
  obtain ⟨hl, hlc⟩ := hlen
  obtain ⟨n, hn⟩ : ∃ n, p.ms.length = n := ⟨_, rfl⟩
  obtain ⟨m, hm⟩ : ∃ m, p.arcs.length = m := ⟨_, rfl⟩
  obtain ⟨ln, hll⟩ : ∃ m, L.length = m := ⟨_, rfl⟩
  rw [hn] at C22 ⊢
  rw [hm] at C22 ⊢
  rw [hll] at hl hlc h20 HFL ⊢
  have HLN := Lib.hid hll
  clear hn hm hll
  obtain ⟨R, hR⟩ : ∃ R, disE p src snk L = R := ⟨_, rfl⟩
  rw [hR]
  unfold disE at hR
  obtain ⟨du, hdu⟩ : ∃ d, dupB (L.flatMap Pt.l) = d := ⟨_, rfl⟩
  rw [hdu] at hR
  have HDU := Lib.hid hdu
  have HR0 := Lib.hid hR
  clear hR hdu
  have HB := Lib.hid ((Below.refl w.heap.size w).alloc (Nat.le_refl _) (.cells #[.slice a1 n n1, .slice a2 m n2] 25))
  have HX := Lib.hid (Box.new w #[.slice a1 n n1, .slice a2 m n2] 25)
  go_enter Tryz.func65, Tryz.ntmps65
  go_wp2_with fail
  go_loopw [9, 10] (fun v i wr => ∃ k : Nat, k ≤ ln ∧ i = .int .i64 k ∧ Below w.heap.size w wr ∧ Box wr w.heap.size 25 [.slice a1 n n1, .slice a2 m n2] ∧ Own encI 1 3 wr (w.heap.size + 1) v ((L.take k).flatMap Pt.l) ∧ (if disL p src snk (L.drop k) ≠ 0 then disL p src snk (L.drop k) else if du = true then (9 : Int) else 0) = R) (fun _ i _ => ln - (intOf i).toNat)
  case atStart => exact ⟨0, by omega, rfl, HB.out, HX.out, Own.nil _ _ _ _ _, HR0.out⟩
  case round =>
    clear HB HX HR0
    obtain ⟨k, hk, rfl, hbe, hx, hown, hrel⟩ := hrel
    have HB1 := Lib.hid hbe
    have HX1 := Lib.hid hx
    have HO1 := Lib.hid hown
    have HR := Lib.hid hrel
    clear hbe hx hrel
    by_cases hlt : k < ln
    rotate_left
    · obtain rfl : ln = k := by omega
      have ho := HO1.out
      rw [List.take_of_length_le (by rw [HLN.out]; omega)] at ho
      have C126 := Lib.hid (twice126 _ _ wr (ho.toSl encI_len (by have := HFL.out; omega)))
      rw [HDU.out] at C126
      have HV := Lib.hid (show (if du = true then (9 : Int) else 0) = R by
        have h := HR.out
        rw [List.drop_of_length_le (by rw [HLN.out]; omega)] at h
        exact h)
      clear ho hown
      go_wp2_with fail
      refine (C126.out).mono ?_
      rintro e w4 ⟨rfl, hb⟩
      have HB4 := Lib.hid (HB1.out.trans (hb.mono HB1.out.size))
      clear hb
      cases du with
      | true =>
        go_wp2_with fail
        go_ret
        exact ⟨by rw [← HV.out]; rfl, HB4.out⟩
      | false =>
        go_wp2_with fail
        go_ret
        exact ⟨by rw [← HV.out]; rfl, HB4.out⟩
    have hkl : k < L.length := by rw [HLN.out]; exact hlt
    obtain ⟨b, off, rfl, hbb, hcells⟩ := HA.out (by omega)
    have c0 := ((hcells k hkl).below HB1.out hbb).c1
    rw [Nat.mul_one] at c0
    have hbz : b < wr.heap.size := Nat.lt_of_lt_of_le hbb HB1.out.size
    have HM := Lib.hid (List.getElem_mem hkl)
    have HT := Lib.hid (flat_take L k hkl)
    have HD := Lib.hid (show (if (if pathE p L[k].l ≠ 0 then pathE p L[k].l else if (!src.contains (L[k].l.getD 0 0) || !snk.contains (L[k].l.getD (L[k].l.length - 1) 0)) = true then 1 else disL p src snk (L.drop (k + 1))) ≠ 0 then (if pathE p L[k].l ≠ 0 then pathE p L[k].l else if (!src.contains (L[k].l.getD 0 0) || !snk.contains (L[k].l.getD (L[k].l.length - 1) 0)) = true then 1 else disL p src snk (L.drop (k + 1))) else if du = true then (9 : Int) else 0) = R from by
      have h := HR.out
      rw [disL_drop p src snk L k hkl] at h
      exact h)
    have hx80 := H80.out _ HM.out
    have hrd := HRD.out _ HM.out
    have K22 := Lib.hid (fun (X : Later wr) => C22.out X.w (HB1.out.trans (X.h.mono HB1.out.size)) L[k] HM.out)
    have DC := Lib.hid (hcells k hkl)
    clear hcells
    generalize L[k] = x at *
    obtain ⟨xa, xc, xl⟩ := x
    dsimp only at hx80 hrd c0 HD HT K22
    have HRX := Lib.hid hrd
    clear hrd
    obtain ⟨x0, x1, xf, xz⟩ := HX1.out.v2
    obtain ⟨ep, hep⟩ : ∃ c, pathE p xl = c := ⟨_, rfl⟩
    rw [hep] at K22 HD
    have HEP := Lib.hid hep
    clear hep
    obtain ⟨xn, hxn⟩ : ∃ n, xl.length = n := ⟨_, rfl⟩
    rw [hxn] at K22 HD c0 hx80 HRX
    have HXN := Lib.hid hxn
    clear hxn
    go_wp2_with fail
    refine wp_region_later (by kernel_rfl) (by kernel_rfl) ?_
    repeat go_big_quiet_step ((go_at_call 22; exact Calls.later (K22.out _)))
    refine wpQuiet_nil ?_
    rintro w2 ⟨⟨_, hb⟩, rfl⟩
    have HB2 := Lib.hid (HB1.out.trans (hb.mono HB1.out.size))
    have HX2 := Lib.hid (HX1.out.later hb)
    have HO2 := Lib.hid (HO1.out.later hb)
    clear hb c0 hbz x0 x1 xf xz
    by_cases h1 : ep = 0
    rotate_left
    · have k1 : (ep != 0) = true := by simpa using h1
      have HV := Lib.hid (show ep = R by
        have h := HD.out
        rw [if_pos (show ep ≠ 0 from h1), if_pos h1] at h
        exact h)
      clear h1
      go_wp2_with fail
      go_ret
      exact ⟨by rw [HV.out]; rfl, HB2.out⟩
    subst h1
    have hpa := PaV.of HEP.out
    have h2 := hpa.two
    rw [HXN.out] at h2
    clear hpa
    obtain ⟨a', c', e5, _, hAx⟩ := id HRX.out
    rw [HXN.out] at e5
    cases e5
    obtain ⟨bx, ox, rfl, hbx, hcx⟩ := hAx (by rw [HXN.out]; omega)
    have l0 := ((hcx 0 (by rw [HXN.out]; omega)).below HB2.out hbx).c1
    have l1 := ((hcx (xn - 1) (by rw [HXN.out]; omega)).below HB2.out hbx).c1
    rw [← getD_geI] at l0 l1
    rw [Nat.mul_one] at l0 l1
    rw [Nat.add_zero] at l0
    have c0 := (DC.out.below HB2.out hbb).c1
    rw [Nat.mul_one] at c0
    dsimp only at c0
    rw [HXN.out] at c0
    have hbz : b < w2.heap.size := Nat.lt_of_lt_of_le hbb HB2.out.size
    have hbxz : bx < w2.heap.size := Nat.lt_of_lt_of_le hbx HB2.out.size
    have k5 : IntKind.i64.wrap ((xn : Int) - 1) = ((xn - 1 : Nat) : Int) := by rw [IntWalk.i64_in _ (by omega)]; omega
    have k6 : ((xn - 1 : Nat) : Int) < (xn : Int) := by omega
    obtain ⟨z0, hz0⟩ : ∃ z, xl.getD 0 0 = z := ⟨_, rfl⟩
    obtain ⟨z1, hz1⟩ : ∃ z, xl.getD (xn - 1) 0 = z := ⟨_, rfl⟩
    rw [hz0] at l0 HD
    rw [hz1] at l1 HD
    have HCX := Lib.hid hcx
    clear hz0 hz1 hcx hAx
    obtain ⟨n6, hn6⟩ : ∃ n, xn - 1 = n := ⟨_, rfl⟩
    rw [hn6] at l1 k5 k6
    clear hn6
    have HK0 := Lib.hid (fun (X : Later w2) => C24.out X.w (HB2.out.trans (X.h.mono HB2.out.size)) z0)
    have HK1 := Lib.hid (fun (X : Later w2) => D24.out X.w (HB2.out.trans (X.h.mono HB2.out.size)) z1)
    obtain ⟨q0, hq0⟩ : ∃ q, src.contains z0 = q := ⟨_, rfl⟩
    obtain ⟨q1, hq1⟩ : ∃ q, snk.contains z1 = q := ⟨_, rfl⟩
    rw [hq0] at HK0 HD
    rw [hq1] at HK1 HD
    clear hq0 hq1
    have hxn0 : (0 : Int) < (xn : Int) := by omega
    cases q0 with
    | false =>
      have HV := Lib.hid (show (1 : Int) = R from HD.out)
      go_wp2_with fail
      refine wp_region_later (by kernel_rfl) (by kernel_rfl) ?_
      repeat go_big_quiet_step (fail)
      go_big_quiet_step ((go_at_call 24; exact Calls.later_same (HK0.out _)))
      repeat go_big_quiet_step (fail)
      refine wpQuiet_nil ?_
      rintro w3 ⟨⟨_, hb⟩, rfl⟩
      have HB3 := Lib.hid (HB2.out.trans (hb.mono HB2.out.size))
      go_wp2_with fail
      go_ret
      exact ⟨by rw [← HV.out]; rfl, HB3.out⟩
    | true =>
    cases q1 with
    | false =>
      have HV := Lib.hid (show (1 : Int) = R from HD.out)
      go_wp2_with fail
      refine wp_region_later (by kernel_rfl) (by kernel_rfl) ?_
      repeat go_big_quiet_step (fail)
      go_big_quiet_step ((go_at_call 24; exact Calls.later_same (HK0.out _)))
      repeat go_big_quiet_step (fail)
      go_big_quiet_step ((go_at_call 24; exact Calls.later_same (HK1.out _)))
      repeat go_big_quiet_step (fail)
      refine wpQuiet_nil ?_
      rintro w3 ⟨⟨_, hb⟩, rfl⟩
      have HB3 := Lib.hid (HB2.out.trans (hb.mono HB2.out.size))
      go_wp2_with fail
      go_ret
      exact ⟨by rw [← HV.out]; rfl, HB3.out⟩
    | true =>
      have HV := Lib.hid (show (if disL p src snk (L.drop (k + 1)) ≠ 0 then disL p src snk (L.drop (k + 1)) else if du = true then (9 : Int) else 0) = R from HD.out)
      go_wp2_with fail
      refine wp_region_later (by kernel_rfl) (by kernel_rfl) ?_
      repeat go_big_quiet_step (fail)
      go_big_quiet_step ((go_at_call 24; exact Calls.later_same (HK0.out _)))
      repeat go_big_quiet_step (fail)
      go_big_quiet_step ((go_at_call 24; exact Calls.later_same (HK1.out _)))
      repeat go_big_quiet_step (fail)
      refine wpQuiet_nil ?_
      rintro w3 ⟨⟨_, hb⟩, rfl⟩
      have HB3 := Lib.hid (HB2.out.trans (hb.mono HB2.out.size))
      have HX3 := Lib.hid (HX2.out.later hb)
      have HO3 := Lib.hid (HO2.out.later hb)
      obtain ⟨q3, hq3⟩ : ∃ q, (⟨bx, ox, none⟩ : Addr) = q := ⟨_, rfl⟩
      have c3 := (DC.out.below HB3.out hbb).c1
      rw [Nat.mul_one] at c3
      dsimp only at c3
      have HAT := Lib.hid (show ∀ i (h : i < xl.length), ∀ j u, (encI xl[i])[j]? = some u → w3.cell? (q3.add (i * 1 + j)) = some u from by
        intro i h j u hu
        subst hq3
        have h1 := ((HCX.out i h).below HB3.out hbx) j u hu
        rw [Addr.add_lit, ← Nat.add_assoc]
        exact h1)
      rw [hq3] at c3
      have hbz3 : b < w3.heap.size := Nat.lt_of_lt_of_le hbb HB3.out.size
      have HLK := Lib.hid (show ((L.take k).flatMap Pt.l).length + xl.length ≤ 2000000000 from by
        have h1 : ((L.take k).flatMap Pt.l).length ≤ 80 * (L.take k).length := flat_len fun t ht => H80.out t (List.mem_of_mem_take ht)
        have h2 : (L.take k).length ≤ k := by rw [List.length_take]; omega
        have := HXN.out
        omega)
      have HSZ := Lib.hid (show w.heap.size + 1 ≤ w3.heap.size from HX3.out.lt)
      clear hb l0 l1 c0 hbz hbxz k5 k6
      go_wp2_with (at_builtin; refine wpList_cat encI 1 8 26 3 _ Tryz.underlying26 infoI rfl (by decide) (by decide) encI_len encI_one ((L.take k).flatMap Pt.l) xl (w.heap.size + 1) w3 _ HO3.out HSZ.out HLK.out q3 _ HAT.out rfl _ _ rfl rfl rfl ?_; intro v' w' hown' hg')
      have HB4 := Lib.hid (grown_below HB3.out hg' HB3.out.size HO3.out.lt' (Nat.le_succ _))
      have HX4 := Lib.hid (HX3.out.kept hg' (HO3.out.ne (Nat.lt_succ_self _)))
      rw [← HT.out] at hown'
      go_wp2_with fail
      go_roundw
      case rel => exact ⟨k + 1, by omega, by go_num, HB4.out, HX4.out, hown', HV.out⟩
      case measure => simp [intOf]; omega
end Go.Proofs.YtahpdkkpnkhnhaaGreatDoor

/- Walks: slices.Grow of a nil slice. -/
namespace Go.Proofs.YtahpdkkpnkhnhaaGreatDoor
open Go Go.Proofs Go.RowKit Go.Shelf
def GrowPost (w : World) (e : Ending) (w' : World) : Prop := ∃ v, e = .returned v ∧ Own encI 1 3 w' w.heap.size v [] ∧ Below w.heap.size w w'
set_option maxRecDepth 100000 in
set_option maxHeartbeats 1000000 in
theorem grow151 (w : World) (n : Nat) (hn : n ≤ 1000000) : Calls Tryz.prog 151 #[.slice none 0 0, .int .i64 n] w (GrowPost w) := by
  obtain ⟨Q, hQ⟩ : ∃ Q, GrowPost w = Q := ⟨_, rfl⟩
  rw [hQ]
  have HQ : Hid (∀ (v : Value) (w' : World), Own encI 1 3 w' w.heap.size v [] → Below w.heap.size w w' → Q (.returned v) w') := Lib.hid (fun v w' h1 h2 => by rw [← hQ]; exact ⟨v, rfl, h1, h2⟩)
  clear hQ
  by_cases h0 : n = 0
  · subst h0
    go_enter Tryz.func151, Tryz.ntmps151
    go_wp2_with fail
    exact HQ.out _ _ (Own.nil _ _ _ _ _) (Below.refl _ _)
  have hpos : 0 < n := by omega
  clear h0
  obtain ⟨i, hi, hz, hs, hby⟩ := info_parts infoI
  have hr := fun ty => Lib.run_append_nil_zeros (P := Tryz.prog) w 26 3 ty 3 i (.int .i64 0) .i64 .i64 Tryz.underlying26 Tryz.underlying3 hi hz n hpos (by rw [hs]; decide) (by omega) (by rw [hby]; omega)
  have hge := grownCap_ge w n 0 3
  have hle := grownCap_le_maxLen w n 0 3 (by unfold maxLen; omega)
  obtain ⟨cp, hcp⟩ : ∃ c, grownCap w n 0 3 = c := ⟨_, rfl⟩
  rw [hcp] at hge hle
  simp only [hcp] at hr
  obtain ⟨cells, hcells⟩ : ∃ c, Builtin.zeroCells (Value.int IntKind.i64 0).cells n ++ Builtin.zeroCells (Value.int IntKind.i64 0).cells (cp - n) = c := ⟨_, rfl⟩
  have hcs : cells.size = cp * 1 := by
    rw [← hcells, Array.size_append, size_zeroCells, size_zeroCells]
    show n * 1 + (cp - n) * 1 = cp * 1
    omega
  rw [hcells] at hr
  have HR := Lib.hid hr
  have HOW := Lib.hid (show Own encI 1 3 (w.drew.alloc (.cells cells 3)) w.heap.size (.slice (some ⟨w.heap.size, 0, none⟩) 0 cp) [] from
    ⟨rfl, .inr ⟨w.heap.size, cp, cells, rfl, Nat.le_refl _, (by show (w.heap.push (.cells cells 3))[w.heap.size]? = _; simp), Nat.zero_le _, hle, hcs, rfl⟩⟩)
  have HBW := Lib.hid ((Below.refl w.heap.size w).drew.alloc (Nat.le_refl _) (.cells cells 3))
  clear hr hcells hcs hi hz hs hby hcp
  have hd : decide ((0 : Int) < (n : Int)) = true := decide_eq_true (by omega)
  go_enter Tryz.func151, Tryz.ntmps151
  go_wp2_with (at_builtin; refine Lib.wpList_append_run _ rfl _ _ _ _ rfl _ _ rfl rfl _ _ (HR.out _) ?_)
  exact HQ.out _ _ HOW.out HBW.out
end Go.Proofs.YtahpdkkpnkhnhaaGreatDoor

/- Walks: slices.Concat of paths. -/
namespace Go.Proofs.YtahpdkkpnkhnhaaGreatDoor
open Go Go.Proofs Go.RowKit Go.Shelf
set_option maxRecDepth 100000 in
set_option maxHeartbeats 2000000 in
theorem concat132 (w : World) (u : Value) (L : List Pt) (hu : PtR w w.heap.size u L) (h20 : L.length ≤ 20) (h80 : ∀ t ∈ L, t.l.length ≤ 80) (h1 : ∀ t ∈ L, 0 < t.l.length) :
    Calls Tryz.prog 132 #[u] w (fun e w' => ∃ v, e = .returned v ∧ Own encI 1 3 w' w.heap.size v (L.flatMap Pt.l) ∧ Below w.heap.size w w') := by
  obtain ⟨Q, hQ⟩ : ∃ Q : Ending → World → Prop, (fun e w' => ∃ v, e = .returned v ∧ Own encI 1 3 w' w.heap.size v (L.flatMap Pt.l) ∧ Below w.heap.size w w') = Q := ⟨_, rfl⟩
  rw [hQ]
  have HQ : Hid (∀ (v : Value) (w' : World), Own encI 1 3 w' w.heap.size v (L.flatMap Pt.l) → Below w.heap.size w w' → Q (.returned v) w') := Lib.hid (fun v w' h1 h2 => by rw [← hQ]; exact ⟨v, rfl, h1, h2⟩)
  clear hQ
  have HRD := Lib.hid hu.rd
  have HFT := Lib.hid (fun k => show ((L.take k).flatMap Pt.l).length ≤ 80 * (L.take k).length from flat_len fun t ht => h80 t (List.mem_of_mem_take ht))
  have H80 := Lib.hid h80
  have H1 := Lib.hid h1
  obtain ⟨a, c, rfl, hlen, hA⟩ := hu.sl
  have HA := Lib.hid hA
  clear hA hu h80 h1
  obtain ⟨hl, hlc⟩ := hlen
  obtain ⟨ln, hll⟩ : ∃ m, L.length = m := ⟨_, rfl⟩
  rw [hll] at hl hlc h20 ⊢
  have HLN := Lib.hid hll
  clear hll
  have HLE := Lib.hid (fun k => show ((L.take k).flatMap Pt.l).length ≤ 1600 from by
    have h1 := HFT.out k
    have h2 : (L.take k).length ≤ ln := by rw [List.length_take, HLN.out]; omega
    omega)
  go_enter Tryz.func132, Tryz.ntmps132
  go_wp2_with fail
  go_loopw [11, 3] (fun j z wr => ∃ k : Nat, k ≤ ln ∧ j = .int .i64 k ∧ z = .int .i64 (((L.take k).flatMap Pt.l).length : Nat) ∧ Below w.heap.size w wr) (fun j _ _ => ln - (intOf j).toNat)
  case atStart => exact ⟨0, by omega, rfl, rfl, Below.refl _ _⟩
  case round =>
    obtain ⟨k, hk, rfl, rfl, hbe⟩ := hrel
    have HB1 := Lib.hid hbe
    clear hbe
    by_cases hlt : k < ln
    · have hkl : k < L.length := by rw [HLN.out]; exact hlt
      obtain ⟨b, off, rfl, hbb, hcells⟩ := HA.out (by omega)
      have c0 := ((hcells k hkl).below HB1.out hbb).c1
      rw [Nat.mul_one] at c0
      have hbz : b < wr.heap.size := Nat.lt_of_lt_of_le hbb HB1.out.size
      have HT := Lib.hid (flat_take L k hkl)
      have hx80 := H80.out _ (List.getElem_mem hkl)
      clear hcells
      generalize L[k] = x at *
      obtain ⟨xa, xc, xl⟩ := x
      dsimp only at hx80 c0 HT
      have HLT := Lib.hid (show ((L.take (k + 1)).flatMap Pt.l).length = ((L.take k).flatMap Pt.l).length + xl.length by rw [HT.out, List.length_append])
      have hle := HLE.out k
      have hle2 := HLE.out (k + 1)
      obtain ⟨s0, hs0⟩ : ∃ n, ((L.take k).flatMap Pt.l).length = n := ⟨_, rfl⟩
      obtain ⟨s1, hs1⟩ : ∃ n, ((L.take (k + 1)).flatMap Pt.l).length = n := ⟨_, rfl⟩
      rw [hs0] at hle HLT ⊢
      rw [hs1] at hle2 HLT
      have HS1 := Lib.hid hs1
      obtain ⟨xn, hxn⟩ : ∃ n, xl.length = n := ⟨_, rfl⟩
      rw [hxn] at HLT c0 hx80
      clear hs0 hs1 hxn
      have d0 : decide ((s0 : Int) + (xn : Int) < 0) = false := decide_eq_false (by omega)
      go_wp2_with fail
      go_roundw
      case rel => exact ⟨k + 1, by omega, by go_num, by rw [HS1.out, HLT.out]; go_num, HB1.out⟩
      case measure => simp [intOf]; omega
    · obtain rfl : ln = k := by omega
      have hle := HLE.out ln
      obtain ⟨s0, hs0⟩ : ∃ n, ((L.take ln).flatMap Pt.l).length = n := ⟨_, rfl⟩
      rw [hs0] at hle ⊢
      clear hs0
      have HGR := Lib.hid (grow151 wr s0 (by omega))
      go_wp2_with fail
      refine (HGR.out).mono ?_
      rintro e w2 ⟨v2, rfl, ho2, hb⟩
      have HO2 := Lib.hid (ho2.lower HB1.out.size)
      have HB2 := Lib.hid (HB1.out.trans (hb.mono HB1.out.size))
      clear ho2 hb
      generalize wr = U at *
      go_wp2_with fail
      go_loopw [27, 6] (fun j v wr => ∃ k : Nat, k ≤ ln ∧ j = .int .i64 k ∧ Own encI 1 3 wr w.heap.size v ((L.take k).flatMap Pt.l) ∧ Below w.heap.size w wr) (fun j _ _ => ln - (intOf j).toNat)
      case atStart => exact ⟨0, by omega, rfl, HO2.out, HB2.out⟩
      case round =>
        obtain ⟨k, hk, rfl, hown, hbe⟩ := hrel
        have HB3 := Lib.hid hbe
        have HO3 := Lib.hid hown
        clear hbe hown
        by_cases hlt : k < ln
        · have hkl : k < L.length := by rw [HLN.out]; exact hlt
          obtain ⟨b, off, rfl, hbb, hcells⟩ := HA.out (by omega)
          have c0 := ((hcells k hkl).below HB3.out hbb).c1
          rw [Nat.mul_one] at c0
          have hbz : b < wr.heap.size := Nat.lt_of_lt_of_le hbb HB3.out.size
          have HT := Lib.hid (flat_take L k hkl)
          have hx80 := H80.out _ (List.getElem_mem hkl)
          have hx1 := H1.out _ (List.getElem_mem hkl)
          have hrd := HRD.out _ (List.getElem_mem hkl)
          clear hcells
          generalize L[k] = x at *
          obtain ⟨xa, xc, xl⟩ := x
          dsimp only at hx80 hx1 hrd c0 HT
          obtain ⟨a', c', e5, _, hAx⟩ := hrd
          cases e5
          obtain ⟨bx, ox, rfl, hbx, hcx⟩ := hAx hx1
          obtain ⟨q3, hq3⟩ : ∃ q, (⟨bx, ox, none⟩ : Addr) = q := ⟨_, rfl⟩
          have HAT := Lib.hid (show ∀ i (h : i < xl.length), ∀ j u, (encI xl[i])[j]? = some u → wr.cell? (q3.add (i * 1 + j)) = some u from by
            intro i h j u hu
            subst hq3
            have h1 := ((hcx i h).below HB3.out hbx) j u hu
            rw [Addr.add_lit, ← Nat.add_assoc]
            exact h1)
          rw [hq3] at c0
          have HLK := Lib.hid (show ((L.take k).flatMap Pt.l).length + xl.length ≤ 2000000000 from by
            have := HLE.out k
            omega)
          clear hcx hAx hq3
          go_wp2_with (at_builtin; refine wpList_cat encI 1 8 26 3 _ Tryz.underlying26 infoI rfl (by decide) (by decide) encI_len encI_one ((L.take k).flatMap Pt.l) xl w.heap.size wr _ HO3.out HB3.out.size HLK.out q3 _ HAT.out rfl _ _ rfl rfl rfl ?_; intro v' w' hown' hg')
          have HB4 := Lib.hid (grown_below HB3.out hg' HB3.out.size HO3.out.lt' (Nat.le_refl _))
          rw [← HT.out] at hown'
          go_wp2_with fail
          go_roundw
          case rel => exact ⟨k + 1, by omega, by go_num, hown', HB4.out⟩
          case measure => simp [intOf]; omega
        · obtain rfl : ln = k := by omega
          have HOF := Lib.hid (show Own encI 1 3 wr w.heap.size _ (L.flatMap Pt.l) from by
            have h := HO3.out
            rw [List.take_of_length_le (by rw [HLN.out]; omega)] at h
            exact h)
          go_wp2_with fail
          exact HQ.out _ _ HOF.out HB3.out
end Go.Proofs.YtahpdkkpnkhnhaaGreatDoor

/- Walks: CheckDisjoint. -/
namespace Go.Proofs.YtahpdkkpnkhnhaaGreatDoor
open Go Go.Proofs Go.RowKit Go.Shelf
def disBE (p : Pl) (src snk : List Int) (L : List Pt) : Int := if bothE p src snk ≠ 0 then bothE p src snk else disE p src snk L
theorem disL_zero {p : Pl} {src snk : List Int} : ∀ {L : List Pt}, disL p src snk L = 0 → ∀ t ∈ L, pathE p t.l = 0
  | [], _, t, ht => by cases ht
  | x :: r, h, t, ht => by
    unfold disL at h
    split at h
    · rename_i h1; exact absurd h h1
    · rename_i h1
      split at h
      · cases h
      · rcases List.mem_cons.1 ht with rfl | h2
        · exact Decidable.not_not.1 h1
        · exact disL_zero h t h2
set_option maxRecDepth 100000 in
set_option maxHeartbeats 2000000 in
theorem checkDisjoint74 (w : World) (v1 v2 s t u : Value) (p : Pl) (src snk : List Int) (L : List Pt) (hw : WdR w) (hv : PlR w w.heap.size v1 v2 p) (hs : Sl encI 1 w w.heap.size s src) (ht : Sl encI 1 w w.heap.size t snk) (hu : PtR w w.heap.size u L) (h20 : L.length ≤ 20) (h80 : ∀ t ∈ L, t.l.length ≤ 80) :
    Calls Tryz.prog 74 #[.agg #[v1, v2], s, t, u] w (Ret (.int .i64 (disBE p src snk L)) w) := by
  have C118 := Lib.hid (fun (w1 : World) (hb : Below w.heap.size w w1) => checkBoth118 w1 v1 v2 s t p src snk (hw.later hb) (hv.later hb) (hs.later hb) (ht.later hb))
  have C104 := Lib.hid (fun (w1 : World) (hb : Below w.heap.size w w1) (x : Pt) (hx : x ∈ L) => checkPath104 w1 v1 v2 _ p x.l (hw.later hb) (hv.later hb) ((hu.rd x hx).later hb))
  have C82 := Lib.hid (fun (w1 : World) (hb : Below w.heap.size w w1) (x : Int) => contains82 s src x w1 (hs.later hb))
  have D82 := Lib.hid (fun (w1 : World) (hb : Below w.heap.size w w1) (x : Int) => contains82 t snk x w1 (ht.later hb))
  have C132 := Lib.hid (fun (w1 : World) (hb : Below w.heap.size w w1) (h : disL p src snk L = 0) => concat132 w1 u L (hu.later hb) h20 h80 (fun t ht => by have := (PaV.of (disL_zero h t ht)).two; omega))
  have HRD := Lib.hid hu.rd
  have HFL := Lib.hid (flat_len h80)
  obtain ⟨a1, n1, a2, n2, rfl, rfl⟩ := hv.agg
  obtain ⟨a, c, rfl, hlen, hA⟩ := hu.sl
  have H80 := Lib.hid h80
  have HA := Lib.hid hA
  clear hA hv hu hs ht h80 hw
  obtain ⟨hl, hlc⟩ := hlen
  obtain ⟨n, hn⟩ : ∃ n, p.ms.length = n := ⟨_, rfl⟩
  obtain ⟨m, hm⟩ : ∃ m, p.arcs.length = m := ⟨_, rfl⟩
  obtain ⟨ln, hll⟩ : ∃ m, L.length = m := ⟨_, rfl⟩
  rw [hn] at C118 C104 ⊢
  rw [hm] at C118 C104 ⊢
  rw [hll] at hl hlc h20 HFL C132 ⊢
  have HLN := Lib.hid hll
  clear hn hm hll
  obtain ⟨R, hR⟩ : ∃ R, disBE p src snk L = R := ⟨_, rfl⟩
  rw [hR]
  unfold disBE disE at hR
  obtain ⟨du, hdu⟩ : ∃ d, dupB (L.flatMap Pt.l) = d := ⟨_, rfl⟩
  rw [hdu] at hR
  have HDU := Lib.hid hdu
  clear hdu
  obtain ⟨bE, hbE⟩ : ∃ e, bothE p src snk = e := ⟨_, rfl⟩
  rw [hbE] at hR C118
  clear hbE
  have HB := Lib.hid ((Below.refl w.heap.size w).alloc (Nat.le_refl _) (.cells #[.slice a1 n n1, .slice a2 m n2] 25))
  have HX := Lib.hid (Box.new w #[.slice a1 n n1, .slice a2 m n2] 25)
  by_cases h0 : bE = 0
  rotate_left
  · have k1 : (bE != 0) = true := by simpa using h0
    have HV := Lib.hid (show bE = R by rw [if_pos h0] at hR; exact hR)
    clear hR h0
    go_enter Tryz.func74, Tryz.ntmps74
    go_wp2_with fail
    refine (C118.out _ HB.out).mono ?_
    rintro e w2 ⟨rfl, hb⟩
    have HB2 := Lib.hid (HB.out.trans (hb.mono HB.out.size))
    clear hb
    go_wp2_with fail
    go_ret
    exact ⟨by rw [HV.out]; rfl, HB2.out⟩
  subst h0
  have HR0 := Lib.hid (show (if disL p src snk L ≠ 0 then disL p src snk L else if du = true then (9 : Int) else 0) = R by rw [if_neg (by simp)] at hR; exact hR)
  clear hR
  go_enter Tryz.func74, Tryz.ntmps74
  go_wp2_with fail
  refine (C118.out _ HB.out).mono ?_
  rintro e w2 ⟨rfl, hb⟩
  have HB2 := Lib.hid (HB.out.trans (hb.mono HB.out.size))
  have HX2 := Lib.hid (HX.out.later hb)
  clear hb HB HX C118
  go_wp2_with fail
  go_loopw [23] (fun j wr => ∃ k : Nat, k ≤ ln ∧ j = .int .i64 k ∧ Below w.heap.size w wr ∧ Box wr w.heap.size 25 [.slice a1 n n1, .slice a2 m n2] ∧ (if disL p src snk (L.drop k) ≠ 0 then disL p src snk (L.drop k) else if du = true then (9 : Int) else 0) = R ∧ (disL p src snk L = disL p src snk (L.drop k))) (fun j _ => ln - (intOf j).toNat)
  case atStart => exact ⟨0, by omega, rfl, HB2.out, HX2.out, HR0.out, rfl⟩
  case round =>
    clear HB2 HX2 HR0
    obtain ⟨k, hk, rfl, hbe, hx, hrel, hsame⟩ := hrel
    have HB1 := Lib.hid hbe
    have HX1 := Lib.hid hx
    have HR := Lib.hid hrel
    have HSM := Lib.hid hsame
    clear hbe hx hrel hsame
    by_cases hlt : k < ln
    rotate_left
    · obtain rfl : ln = k := by omega
      have hz : disL p src snk (L.drop ln) = 0 := by rw [List.drop_of_length_le (by rw [HLN.out]; omega)]; rfl
      have HV := Lib.hid (show (if du = true then (9 : Int) else 0) = R by
        have h := HR.out
        rw [hz, if_neg (by simp)] at h
        exact h)
      have K132 := Lib.hid (fun w1 hb => C132.out w1 hb (HSM.out.trans hz))
      clear hz
      have hfl := HFL.out
      generalize L.flatMap Pt.l = A at *
      go_wp2_with fail
      refine (K132.out _ HB1.out).mono ?_
      rintro e w3 ⟨v3, rfl, ho3, hb⟩
      have HB3 := Lib.hid (HB1.out.trans (hb.mono HB1.out.size))
      have hs3 := ho3.toSl encI_len (by omega)
      have HS3 := Lib.hid hs3
      obtain ⟨a3, c3, rfl, _, _⟩ := hs3
      clear hb ho3
      have k1 : ((cptN A : Int) != (A.length : Int)) = du := by rw [← HDU.out]; exact cptN_dup A
      obtain ⟨an, han⟩ : ∃ x, A.length = x := ⟨_, rfl⟩
      rw [han] at HS3 k1 hfl ⊢
      have HAN := Lib.hid han
      clear han
      go_wp2_with fail
      refine (values135 _ _ _ _).mono ?_
      rintro e w4 ⟨rfl, h4⟩
      have hb4 : Below w3.heap.size w3 w4 := by rw [← h4]; exact (Below.refl _ _).alloc (Nat.le_refl _) _
      have HVR := Lib.hid (show VlR w4 w3.heap.size w3.heap.size (.slice a3 an c3) A from by
        rw [← h4]
        have hb : Below w3.heap.size w3 (w3.alloc (.cells #[.slice a3 an c3] 26)) := (Below.refl _ _).alloc (Nat.le_refl _) _
        exact ⟨Box.new w3 #[.slice a3 an c3] 26, HS3.out.below hb, hb.size⟩)
      have HB4 := Lib.hid (HB3.out.trans (hb4.mono HB3.out.size))
      have HSO := Lib.hid (sorted134 _ _ _ A w4 HVR.out (by rw [HAN.out]; omega))
      clear h4 hb4
      go_wp2_with fail
      refine (HSO.out).mono ?_
      rintro e w5 ⟨v5, rfl, ho5, hb⟩
      have HB5 := Lib.hid (HB4.out.trans (hb.mono HB4.out.size))
      have HCO := Lib.hid (compact133 _ v5 A w5 ho5 hb.size (by rw [HAN.out]; omega))
      have h45 := hb.size
      obtain ⟨a5, c5, rfl⟩ := ho5.shape
      clear ho5 hb
      generalize cptN A = cn at *
      generalize (sortI A).length = sn at *
      go_wp2_with fail
      refine (HCO.out).mono ?_
      rintro e w6 ⟨a6, c6, rfl, hb⟩
      have HB6 := Lib.hid (HB5.out.trans (hb.mono (Nat.le_trans HB4.out.size (Nat.le_refl _))))
      clear hb
      cases du with
      | true =>
        go_wp2_with fail
        go_ret
        exact ⟨by rw [← HV.out]; rfl, HB6.out⟩
      | false =>
        go_wp2_with fail
        go_ret
        exact ⟨by rw [← HV.out]; rfl, HB6.out⟩
    have hkl : k < L.length := by rw [HLN.out]; exact hlt
    obtain ⟨b, off, rfl, hbb, hcells⟩ := HA.out (by omega)
    have c0 := ((hcells k hkl).below HB1.out hbb).c1
    rw [Nat.mul_one] at c0
    have hbz : b < wr.heap.size := Nat.lt_of_lt_of_le hbb HB1.out.size
    have HM := Lib.hid (List.getElem_mem hkl)
    have HDL := Lib.hid (disL_drop p src snk L k hkl)
    have hx80 := H80.out _ HM.out
    have hrd := HRD.out _ HM.out
    have K104 := Lib.hid (fun w1 hb => C104.out w1 hb L[k] HM.out)
    clear hcells
    generalize L[k] = x at *
    obtain ⟨xa, xc, xl⟩ := x
    dsimp only at hx80 hrd c0 HDL K104
    have HRX := Lib.hid hrd
    clear hrd
    obtain ⟨x0, x1, xf, xz⟩ := HX1.out.v2
    obtain ⟨ep, hep⟩ : ∃ c, pathE p xl = c := ⟨_, rfl⟩
    rw [hep] at K104 HDL
    have HEP := Lib.hid hep
    clear hep
    obtain ⟨xn, hxn⟩ : ∃ n, xl.length = n := ⟨_, rfl⟩
    rw [hxn] at K104 HDL c0 hx80 HRX
    have HXN := Lib.hid hxn
    clear hxn
    go_wp2_with fail
    refine (K104.out _ HB1.out).mono ?_
    rintro e w2 ⟨rfl, hb⟩
    have HB2 := Lib.hid (HB1.out.trans (hb.mono HB1.out.size))
    have HX2 := Lib.hid (HX1.out.later hb)
    clear hb c0 hbz x0 x1 xf xz
    by_cases h1 : ep = 0
    rotate_left
    · have k1 : (ep != 0) = true := by simpa using h1
      have HV := Lib.hid (show ep = R by
        have h := HR.out
        rw [HDL.out, if_pos (show ep ≠ 0 from h1), if_pos h1] at h
        exact h)
      clear h1
      go_wp2_with fail
      go_ret
      exact ⟨by rw [HV.out]; rfl, HB2.out⟩
    subst h1
    have hpa := PaV.of HEP.out
    have h2 := hpa.two
    rw [HXN.out] at h2
    clear hpa
    obtain ⟨a', c', e5, _, hAx⟩ := id HRX.out
    rw [HXN.out] at e5
    cases e5
    obtain ⟨bx, ox, rfl, hbx, hcx⟩ := hAx (by rw [HXN.out]; omega)
    have l0 := ((hcx 0 (by rw [HXN.out]; omega)).below HB2.out hbx).c1
    have l1 := ((hcx (xn - 1) (by rw [HXN.out]; omega)).below HB2.out hbx).c1
    rw [← getD_geI] at l0 l1
    rw [Nat.mul_one] at l0 l1
    rw [Nat.add_zero] at l0
    have hbxz : bx < w2.heap.size := Nat.lt_of_lt_of_le hbx HB2.out.size
    have k5 : IntKind.i64.wrap ((xn : Int) - 1) = ((xn - 1 : Nat) : Int) := by rw [IntWalk.i64_in _ (by omega)]; omega
    have k6 : ((xn - 1 : Nat) : Int) < (xn : Int) := by omega
    obtain ⟨z0, hz0⟩ : ∃ z, xl.getD 0 0 = z := ⟨_, rfl⟩
    obtain ⟨z1, hz1⟩ : ∃ z, xl.getD (xn - 1) 0 = z := ⟨_, rfl⟩
    rw [hz0] at l0 HDL
    rw [hz1] at l1 HDL
    clear hz0 hz1 hcx hAx
    obtain ⟨n6, hn6⟩ : ∃ n, xn - 1 = n := ⟨_, rfl⟩
    rw [hn6] at l1 k5 k6
    clear hn6
    have HK0 := Lib.hid (fun w1 hb => C82.out w1 hb z0)
    have HK1 := Lib.hid (fun w1 hb => D82.out w1 hb z1)
    obtain ⟨q0, hq0⟩ : ∃ q, src.contains z0 = q := ⟨_, rfl⟩
    obtain ⟨q1, hq1⟩ : ∃ q, snk.contains z1 = q := ⟨_, rfl⟩
    rw [hq0] at HK0 HDL
    rw [hq1] at HK1 HDL
    clear hq0 hq1
    have hxn0 : (0 : Int) < (xn : Int) := by omega
    cases q0 with
    | false =>
      have HV := Lib.hid (show (1 : Int) = R from by have h := HR.out; rw [HDL.out] at h; exact h)
      go_wp2_with fail
      refine (HK0.out _ HB2.out).mono ?_
      rintro e w3 ⟨rfl, rfl⟩
      go_wp2_with fail
      go_ret
      exact ⟨by rw [← HV.out]; rfl, HB2.out⟩
    | true =>
    cases q1 with
    | false =>
      have HV := Lib.hid (show (1 : Int) = R from by have h := HR.out; rw [HDL.out] at h; exact h)
      go_wp2_with fail
      refine (HK0.out _ HB2.out).mono ?_
      rintro e w3 ⟨rfl, rfl⟩
      go_wp2_with fail
      refine (HK1.out _ HB2.out).mono ?_
      rintro e w3 ⟨rfl, rfl⟩
      go_wp2_with fail
      go_ret
      exact ⟨by rw [← HV.out]; rfl, HB2.out⟩
    | true =>
      have HD2 := Lib.hid (show disL p src snk (L.drop k) = disL p src snk (L.drop (k + 1)) from HDL.out)
      have HV := Lib.hid (show (if disL p src snk (L.drop (k + 1)) ≠ 0 then disL p src snk (L.drop (k + 1)) else if du = true then (9 : Int) else 0) = R from by have h := HR.out; rw [HD2.out] at h; exact h)
      go_wp2_with fail
      refine (HK0.out _ HB2.out).mono ?_
      rintro e w3 ⟨rfl, rfl⟩
      go_wp2_with fail
      refine (HK1.out _ HB2.out).mono ?_
      rintro e w3 ⟨rfl, rfl⟩
      go_wp2_with fail
      go_roundw
      case rel => exact ⟨k + 1, by omega, by go_num, HB2.out, HX2.out, HV.out, HSM.out.trans HD2.out⟩
      case measure => simp [intOf]; omega
end Go.Proofs.YtahpdkkpnkhnhaaGreatDoor

/- Opening the arguments: a trip; sources and sinks. -/
namespace Go.Proofs.YtahpdkkpnkhnhaaGreatDoor
open Go Go.Proofs Go.RowKit Go.ChangeShapes Go.WideShapes Go.ChangeAt Go.Joins Go.Deep
section
variable {H : Type} {enc : TypeId × Value → H} {W : World}
theorem ints_le {n c : Nat} {a : Option Addr} {d : DataW H} {p : List MemPlace} (h : DataW.Trod enc Tryz.prog W 0 (fun _ => true) true 26 (.slice a n c) d p) :
    n ≤ 9223372036854775807 ∧ ∃ l, n ≤ 80 → Sl encI 1 W W.heap.size (.slice a n c) l := by
  obtain ⟨fuel, hf⟩ := h
  obtain ⟨k1, k2⟩ := sl_ints hf
  refine ⟨k1, ?_⟩
  by_cases h8 : n ≤ 80
  · obtain ⟨l, _, h2, _⟩ := k2 (by omega)
    exact ⟨l, fun _ => h2⟩
  · exact ⟨[], fun h => absurd h h8⟩
set_option maxRecDepth 100000 in
/-- Sources and sinks by value. -/
theorem ends_open {r : Reach} {b0 : Nat} {v : Value} {d : DataW H} {p : List MemPlace} (hv : Value.okWide Tryz.prog W r b0 84 v) (h : DataW.Trod enc Tryz.prog W 0 (fun _ => true) true 84 v d p) :
    ∃ a n c a' n' c', v = .agg #[.slice a n c, .slice a' n' c'] ∧ n ≤ 9223372036854775807 ∧ n' ≤ 9223372036854775807 ∧ (∃ l, n ≤ 80 → Sl encI 1 W W.heap.size (.slice a n c) l) ∧ ∃ l, n' ≤ 80 → Sl encI 1 W W.heap.size (.slice a' n' c') l := by
  obtain ⟨v0, v1, y0, y1, n, rfl, _, _, h0, h1⟩ := open_agg2 Tryz.underlying84 (by kernel_rfl) (by kernel_rfl) hv h
  obtain ⟨a1, n1, c1, e1⟩ := slice_form Tryz.underlying26 h0
  obtain ⟨a2, n2, c2, e2⟩ := slice_form Tryz.underlying26 h1
  cases e1
  cases e2
  obtain ⟨k1, k2⟩ := ints_le ⟨_, h0⟩
  obtain ⟨k3, k4⟩ := ints_le ⟨_, h1⟩
  exact ⟨a1, n1, c1, a2, n2, c2, rfl, k1, k3, k2, k4⟩
end
end Go.Proofs.YtahpdkkpnkhnhaaGreatDoor
