/- Lemmas on the way to the law PathEarliest (part 8): Up Jc Jd -/
import Derived.Test.YtahpdkkpnkhnhaaGreatDoorPathEarliestP03
import Derived.Test.YtahpdkkpnkhnhaaGreatDoorPathEarliestP07
import Derived.RegionTactic
import Derived.BigRegion
import Derived.Test.YtahpdkkpnkhnhaaGreatDoorLib29
import Derived.Test.YtahpdkkpnkhnhaaGreatDoorPathEarliestP04
set_option linter.unusedVariables false
set_option linter.unusedSimpArgs false

/- Walks: the law PathEarliest. -/
namespace Go.Proofs.YtahpdkkpnkhnhaaGreatDoor
open Go Go.Proofs Go.RowKit Go.Shelf
set_option maxRecDepth 100000 in
set_option maxHeartbeats 4000000 in
theorem earliest14 (w : World) (a1 a2 a3 : Option Addr) (n1 n2 n3 c1 c2 c3 : Nat) (p : Pl) (tv : List TkV) (hwd : WdR w) (hn1 : n1 ≤ 9223372036854775807) (hn2 : n2 ≤ 9223372036854775807) (hn3 : n3 ≤ 9223372036854775807)
    (hv : n1 ≤ 70 → n2 ≤ 260 → PlR w w.heap.size (.slice a1 n1 c1) (.slice a2 n2 c2) p ∧ p.ms.length = n1 ∧ p.arcs.length = n2 ∧ ∀ m ∈ p.ms, m.kind.size ≤ 9223372036854775807)
    (ht : TvR w w.heap.size (.slice a3 n3 c3) n3 tv) :
    Calls Tryz.prog 14 #[.agg #[.slice a1 n1 c1, .slice a2 n2 c2], .slice a3 n3 c3] w (Ret (.bool true) w) := by
  obtain ⟨g, hg⟩ : ∃ g, heavyB p n1 n2 [] = g := ⟨_, rfl⟩
  have HH := Lib.hid (fun (w1 : World) (hb : Below w.heap.size w w1) => heavy17 w1 a1 a2 none n1 n2 0 c1 c2 0 p [] hn1 hn2 (fun x y => ⟨(hv x y).1.later hb, (hv x y).2⟩) (Sl.nil _ _ _ _ _ _) (by simp))
  rw [hg] at HH
  obtain ⟨mb, hmb⟩ : ∃ g, manyB n3 4 tv = g := ⟨_, rfl⟩
  have HM := Lib.hid (fun (w1 : World) (hb : Below w.heap.size w w1) => many51 w1 a3 n3 c3 4 tv hn3 (by omega) (ht.later hb))
  rw [hmb] at HM
  have HMB := Lib.hid hmb
  have HG := Lib.hid hg
  have HWD := Lib.hid hwd
  have HV := Lib.hid hv
  have HTV := Lib.hid ht
  clear hwd hv hg ht hmb
  have HB := Lib.hid ((Below.refl w.heap.size w).alloc (Nat.le_refl _) (.cells #[.slice a1 n1 c1, .slice a2 n2 c2] 25))
  have HX := Lib.hid (Box.new w #[.slice a1 n1 c1, .slice a2 n2 c2] 25)
  go_enter Tryz.func14, Tryz.ntmps14
  go_wp2_with fail
  refine (awake16 _ (HWD.out.later HB.out)).mono ?_
  rintro e2 w2 ⟨rfl, hb⟩
  have HB2 := Lib.hid (HB.out.trans (hb.mono HB.out.size))
  have HX2 := Lib.hid (HX.out.later hb)
  clear hb
  obtain ⟨x0, x1, xf, xz⟩ := HX2.out.v2
  go_wp2_with fail
  refine (HH.out _ HB2.out).mono ?_
  rintro e3 w3 ⟨rfl, hb⟩
  have HB3 := Lib.hid (HB2.out.trans (hb.mono HB2.out.size))
  have HX3 := Lib.hid (HX2.out.later hb)
  clear hb x0 x1 xf xz HB2 HX2
  obtain ⟨x0, x1, xf, xz⟩ := HX3.out.v2
  cases g with
  | true =>
    go_wp2_with fail
    refine (awake16 _ (HWD.out.later HB3.out)).mono ?_
    rintro e4 w4 ⟨rfl, hb⟩
    have HB4 := Lib.hid (HB3.out.trans (hb.mono HB3.out.size))
    have HX4 := Lib.hid (HX3.out.later hb)
    clear hb x0 x1 xf xz HB3 HX3
    obtain ⟨x0, x1, xf, xz⟩ := HX4.out.v2
    go_wp2_with fail
    go_ret
    exact ⟨rfl, HB4.out⟩
  | false =>
    by_cases h4 : 4 < n3
    · have d4 : decide ((4 : Int) < (n3 : Int)) = true := decide_eq_true (by omega)
      have d5 : decide (4 < n3) = true := decide_eq_true h4
      clear h4
      go_wp2_with fail
      refine (awake16 _ (HWD.out.later HB3.out)).mono ?_
      rintro e5 w5 ⟨rfl, hb⟩
      have HB5 := Lib.hid (HB3.out.trans (hb.mono HB3.out.size))
      have HX5 := Lib.hid (HX3.out.later hb)
      clear hb x0 x1 xf xz HB3 HX3
      obtain ⟨x0, x1, xf, xz⟩ := HX5.out.v2
      go_wp2_with fail
      go_ret
      exact ⟨rfl, HB5.out⟩
    have d4 : decide ((4 : Int) < (n3 : Int)) = false := decide_eq_false (by omega)
    have d5 : decide (4 < n3) = false := decide_eq_false h4
    have hn34 : n3 ≤ 4 := by omega
    clear h4
    go_wp2_with fail
    refine (HM.out _ HB3.out).mono ?_
    rintro e6 w6 ⟨rfl, hb⟩
    have HB6 := Lib.hid (HB3.out.trans (hb.mono HB3.out.size))
    have HX6 := Lib.hid (HX3.out.later hb)
    clear hb x0 x1 xf xz HB3 HX3
    obtain ⟨x0, x1, xf, xz⟩ := HX6.out.v2
    cases mb with
    | true =>
      go_wp2_with fail
      refine (awake16 _ (HWD.out.later HB6.out)).mono ?_
      rintro e7 w7 ⟨rfl, hb⟩
      have HB7 := Lib.hid (HB6.out.trans (hb.mono HB6.out.size))
      have HX7 := Lib.hid (HX6.out.later hb)
      clear hb x0 x1 xf xz HB6 HX6
      obtain ⟨x0, x1, xf, xz⟩ := HX7.out.v2
      go_wp2_with fail
      go_ret
      exact ⟨rfl, HB7.out⟩
    | false =>
      obtain ⟨_, q2, q3, _, _⟩ := heavyB_no HG.out
      obtain ⟨hpl, _, _, _⟩ := HV.out q2 q3
      obtain ⟨r1, r2, r3, htr, hsz⟩ := manyB_no HMB.out HTV.out
      generalize tv.map TkV.tk = ts at *
      have C52 := Lib.hid (fun (w1 : World) (hb : Below w.heap.size w w1) => checkTasks52 w1 _ _ _ p ts (hpl.later hb) (htr.later hb) hsz)
      have C54 := Lib.hid (fun (w1 : World) (hb : Below w.heap.size w w1) => schedule54 w1 _ _ _ p ts (HWD.out.later hb) (hpl.later hb) (htr.later hb) hsz)
      have C55 := Lib.hid (fun (w1 : World) (hb : Below w.heap.size w w1) => fun x st (hx : Sl encI 1 w1 w1.heap.size x st) => checkSchedule55 w1 _ _ _ x p ts st (HWD.out.later hb) (hpl.later hb) (htr.later hb) hsz hx)
      have C56 := Lib.hid (fun (w1 : World) (hb : Below w.heap.size w w1) => fun x st (hx : Sl encI 1 w1 w1.heap.size x st) => length56 w1 _ _ _ x p ts st (HWD.out.later hb) (hpl.later hb) (htr.later hb) hsz hx)
      have C70 := Lib.hid (fun (w1 : World) (hb : Below w.heap.size w w1) => bound70 w1 _ _ _ p ts (HWD.out.later hb) (hpl.later hb) (htr.later hb) hsz)
      have C71 := Lib.hid (fun (w1 : World) (hb : Below w.heap.size w w1) => best71 w1 _ _ _ p ts (HWD.out.later hb) (hpl.later hb) (htr.later hb) hsz)
      have C76 := Lib.hid (fun (w1 : World) (hb : Below w.heap.size w w1) => fun v (o : List Int) (hs : Sl encI 1 w1 w1.heap.size v o) hin hl => ordered76 w1 _ v ts o (htr.later hb) hs hin hl)
      have D54 := Lib.hid (fun (w1 : World) (hb : Below w.heap.size w w1) => fun u us (hu : TasksR w1 w1.heap.size u us) hs => schedule54 w1 _ _ u p us (HWD.out.later hb) (hpl.later hb) hu hs)
      have D55 := Lib.hid (fun (w1 : World) (hb : Below w.heap.size w w1) => fun k (hk : k ≤ ts.length) x st (hx : Sl encI 1 w1 w1.heap.size x st) => checkSchedule55 w1 _ _ _ x p (ts.take k) st (HWD.out.later hb) (hpl.later hb) ((htr.take k hk).later hb) (hsz.take k) hx)
      have D56 := Lib.hid (fun (w1 : World) (hb : Below w.heap.size w w1) => fun u us x st (hu : TasksR w1 w1.heap.size u us) hs (hx : Sl encI 1 w1 w1.heap.size x st) => length56 w1 _ _ u x p us st (HWD.out.later hb) (hpl.later hb) hu hs hx)
      have HSZ := Lib.hid hsz
      have HCC := Lib.hid (show n3 ≤ c3 by obtain ⟨_, _, e, h, _⟩ := id htr; injection e with e1 e2 e3; rw [e3]; omega)
      clear hpl htr hsz q2 q3 r1 r2
      obtain ⟨ck, hck⟩ : ∃ x, ckTasks p ts = x := ⟨_, rfl⟩
      rw [hck] at C52
      have HCK := Lib.hid hck
      clear hck
      go_wp2_with fail
      refine (C52.out _ HB6.out).mono ?_
      rintro e8 w8 ⟨rfl, hb⟩
      have HB8 := Lib.hid (HB6.out.trans (hb.mono HB6.out.size))
      have HX8 := Lib.hid (HX6.out.later hb)
      clear hb x0 x1 xf xz HB6 HX6
      obtain ⟨x0, x1, xf, xz⟩ := HX8.out.v2
      by_cases h0 : ck = 0
      rotate_left
      · have k1 : (ck != 0) = true := bne_iff_ne.2 h0
        clear h0
        go_wp2_with fail
        refine (awake16 _ (HWD.out.later HB8.out)).mono ?_
        rintro e9 w9 ⟨rfl, hb⟩
        have HB9 := Lib.hid (HB8.out.trans (hb.mono HB8.out.size))
        have HX9 := Lib.hid (HX8.out.later hb)
        clear hb x0 x1 xf xz HB8 HX8
        obtain ⟨x0, x1, xf, xz⟩ := HX9.out.v2
        go_wp2_with fail
        go_ret
        exact ⟨rfl, HB9.out⟩
      subst h0
      have HOK := Lib.hid (TsOk.of HCK.out)
      obtain ⟨k1, k2⟩ := lenF_nn HOK.out
      have HR3 := Lib.hid r3
      clear r3 C52
      have HSE := Lib.hid (schE_zero HCK.out)
      have HLE := Lib.hid (lenE_F HCK.out)
      have HEA := Lib.hid (fun i hi t h0 ht => early_E (p := p) (ts := ts) (i := i) (t := t) HCK.out hi h0 ht)
      have HSL := Lib.hid (show (stO p ts).length = n3 by rw [stO_len]; exact HR3.out)
      have HSB := Lib.hid (stO_bd HOK.out)
      have HSQ := Lib.hid (fun outs hs hl => stO_eq (p := p) (ts := ts) (outs := outs) hs hl)
      have hbn : boundTo p ts p.ms.length ≤ lenF p ts := by
        have h := best_bound HOK.out (ord_nums ts.length)
        rwa [ordT_nums] at h
      have HBO := Lib.hid (fun o (ho : OrdK ts.length ts.length o) => best_bound HOK.out ho)
      have HBR := Lib.hid (best_r HOK.out)
      have HBV := Lib.hid (show boundV p ts = (boundTo p ts p.ms.length, 0) by unfold boundV; rw [if_neg (by simp [HCK.out])])
      have HBE := Lib.hid (show bestE p ts = 0 by unfold bestE; rw [if_neg (by simp [HCK.out]), if_neg (by rw [HR3.out]; omega)])
      rw [HBV.out] at C70
      unfold BestQ at C71
      rw [HBE.out] at C71
      obtain ⟨st, hst⟩ : ∃ x, stO p ts = x := ⟨_, rfl⟩
      rw [hst] at HSE HLE HEA HSL HSB HSQ
      obtain ⟨nF, hnF⟩ : ∃ x, lenF p ts = x := ⟨_, rfl⟩
      rw [hnF] at HLE hbn k1 k2
      obtain ⟨bT, hbT⟩ : ∃ x, boundTo p ts p.ms.length = x := ⟨_, rfl⟩
      rw [hbT] at C70 hbn HBO
      have HNF := Lib.hid hnF
      clear hst hnF hbT HBV HBE
      go_wp2_with fail
      refine (C54.out _ HB8.out).mono ?_
      intro e10 w10 hh
      obtain ⟨v5, outs, rfl, hs5, hol, hsc, hb⟩ := hh.good HCK.out
      obtain rfl := HSQ.out outs hsc hol
      obtain ⟨a5, c5, hv5, _, _⟩ := id hs5
      rw [HSL.out] at hv5
      subst hv5
      have HS5 := Lib.hid hs5
      clear hs5 hol hsc
      clear hh
      have HB10 := Lib.hid (HB8.out.trans (hb.mono HB8.out.size))
      have HX10 := Lib.hid (HX8.out.later hb)
      clear hb x0 x1 xf xz HB8 HX8
      obtain ⟨x0, x1, xf, xz⟩ := HX10.out.v2
      go_wp2_with fail
      refine (C56.out _ HB10.out _ outs HS5.out).mono ?_
      intro e11 w11 hh
      obtain ⟨rfl, hb⟩ := id hh
      rw [HLE.out, HSE.out]
      clear hh
      have HB11 := Lib.hid (HB10.out.trans (hb.mono HB10.out.size))
      have HX11 := Lib.hid (HX10.out.later hb)
      have HS5n := Lib.hid (HS5.out.later hb)
      clear HS5
      have HS5 := HS5n
      clear HS5n
      clear hb x0 x1 xf xz HB10 HX10
      obtain ⟨x0, x1, xf, xz⟩ := HX11.out.v2
      go_wp2_with fail
      refine (C70.out _ HB11.out).mono ?_
      rintro e12 w12 ⟨rfl, hb⟩
      have HB12 := Lib.hid (HB11.out.trans (hb.mono HB11.out.size))
      have HX12 := Lib.hid (HX11.out.later hb)
      have HS5n := Lib.hid (HS5.out.later hb)
      clear HS5
      have HS5 := HS5n
      clear HS5n
      clear hb x0 x1 xf xz HB11 HX11
      obtain ⟨x0, x1, xf, xz⟩ := HX12.out.v2
      go_wp2_with fail
      refine (C71.out _ HB12.out).mono ?_
      intro e13 w13 hh
      obtain ⟨v7, o, rfl, hs7, _, hg7, hb⟩ := id hh
      obtain ⟨_, _, ho⟩ := hg7 (by first | rfl | trivial)
      have hbr := HBR.out
      rw [← ho] at hbr
      have HOR := Lib.hid hbr.ord
      have hlow := hbr.low
      have hlow2 := HBO.out o hbr.ord
      rw [HNF.out] at hlow
      have HOL := Lib.hid (show o.length = n3 by rw [hbr.ord.len]; exact HR3.out)
      obtain ⟨a7, c7, hv7, _, _⟩ := id hs7
      rw [HOL.out] at hv7
      subst hv7
      have HS7 := Lib.hid hs7
      clear hs7 hg7 ho hbr
      clear hh
      have HB13 := Lib.hid (HB12.out.trans (hb.mono HB12.out.size))
      have HX13 := Lib.hid (HX12.out.later hb)
      have HS5n := Lib.hid (HS5.out.later hb)
      clear HS5
      have HS5 := HS5n
      clear HS5n
      clear hb x0 x1 xf xz HB12 HX12
      obtain ⟨x0, x1, xf, xz⟩ := HX13.out.v2
      have d8 : decide (nF < bT) = false := decide_eq_false (by omega)
      go_wp2_with fail
      refine (C55.out _ HB13.out _ outs HS5.out).mono ?_
      intro e14 w14 hh
      obtain ⟨rfl, hb⟩ := id hh
      rw [HSE.out]
      clear hh
      have HB14 := Lib.hid (HB13.out.trans (hb.mono HB13.out.size))
      have HX14 := Lib.hid (HX13.out.later hb)
      have HS5n := Lib.hid (HS5.out.later hb)
      clear HS5
      have HS5 := HS5n
      clear HS5n
      have HS7n := Lib.hid (HS7.out.later hb)
      clear HS7
      have HS7 := HS7n
      clear HS7n
      clear hb x0 x1 xf xz HB13 HX13
      obtain ⟨x0, x1, xf, xz⟩ := HX14.out.v2
      go_wp2_with fail
      clear x0 x1 xf xz
      go_loopw [13] (fun i wr => ∃ k : Nat, k ≤ n3 ∧ i = .int .i64 k ∧ Below w14.heap.size w14 wr) (fun i _ => n3 - (intOf i).toNat)
      case atStart => exact ⟨0, by omega, rfl, Below.refl _ _⟩
      case round =>
        obtain ⟨k, hk, rfl, hbe⟩ := hrel
        obtain ⟨U1, hU1⟩ : ∃ U : World, U = wr := ⟨_, rfl⟩
        subst hU1
        have HB1 := Lib.hid (HB14.out.trans (hbe.mono HB14.out.size))
        have HX1 := Lib.hid (HX14.out.later hbe)
        have HS51 := Lib.hid (HS5.out.later hbe)
        have HS71 := Lib.hid (HS7.out.later hbe)
        have HK1 := Lib.hid hbe
        clear hbe
        obtain ⟨x0, x1, xf, xz⟩ := HX1.out.v2
        by_cases hlt : k < n3
        rotate_left
        · obtain rfl : n3 = k := by omega
          have HCU := Lib.hid (ordT_ck HCK.out HOR.out)
          have HSU := Lib.hid (show SzT (ordT ts o) from fun t ht => HSZ.out t (ordT_mem HOR.out.ins t ht))
          go_wp2_with fail
          refine (C76.out _ HB1.out _ o HS71.out HOR.out.ins (by rw [HOL.out]; omega)).mono ?_
          intro e15 w15 hh
          obtain ⟨v8, rfl, hu8, hb⟩ := id hh
          obtain ⟨us, hus⟩ : ∃ x, ordT ts o = x := ⟨_, rfl⟩
          rw [hus] at hu8 HCU HSU hlow hlow2
          clear hus
          have HU8 := Lib.hid hu8
          obtain ⟨a8, c8, hv8, _, _⟩ := id hu8
          obtain ⟨n8, hn8⟩ : ∃ x, us.length = x := ⟨_, rfl⟩
          rw [hn8] at hv8
          subst hv8
          clear hu8 hn8
          have HSE2 := Lib.hid (schE_zero HCU.out)
          have HLE2 := Lib.hid (lenE_F HCU.out)
          have HSQ2 := Lib.hid (fun outs hs hl => stO_eq (p := p) (ts := us) (outs := outs) hs hl)
          obtain ⟨st2, hst2⟩ : ∃ x, stO p us = x := ⟨_, rfl⟩
          rw [hst2] at HSE2 HLE2 HSQ2
          obtain ⟨mF, hmF⟩ : ∃ x, lenF p us = x := ⟨_, rfl⟩
          rw [hmF] at HLE2 hlow hlow2
          clear hst2 hmF
          have d9 : decide (mF ≤ nF) = true := decide_eq_true hlow
          have d10 : decide (bT ≤ mF) = true := decide_eq_true hlow2
          clear hh
          have HB15 := Lib.hid (HB1.out.trans (hb.mono HB1.out.size))
          have HX15 := Lib.hid (HX1.out.later hb)
          clear hb x0 x1 xf xz HB1 HX1
          obtain ⟨x0, x1, xf, xz⟩ := HX15.out.v2
          go_wp2_with fail
          refine (D54.out _ HB15.out _ us HU8.out HSU.out).mono ?_
          intro e16 w16 hh
          obtain ⟨v9, outs2, rfl, hs9, hol, hsc, hb⟩ := hh.good HCU.out
          obtain rfl := HSQ2.out outs2 hsc hol
          obtain ⟨a9, c9, hv9, _, _⟩ := id hs9
          obtain ⟨n9, hn9⟩ : ∃ x, outs2.length = x := ⟨_, rfl⟩
          rw [hn9] at hv9
          subst hv9
          have HS9 := Lib.hid hs9
          clear hs9 hol hsc hn9
          clear hh
          have HB16 := Lib.hid (HB15.out.trans (hb.mono HB15.out.size))
          have HX16 := Lib.hid (HX15.out.later hb)
          have HU8n := Lib.hid (HU8.out.later hb)
          clear HU8
          have HU8 := HU8n
          clear HU8n
          clear hb x0 x1 xf xz HB15 HX15
          obtain ⟨x0, x1, xf, xz⟩ := HX16.out.v2
          go_wp2_with fail
          refine (D56.out _ HB16.out _ us _ outs2 HU8.out HSU.out HS9.out).mono ?_
          intro e17 w17 hh
          obtain ⟨rfl, hb⟩ := id hh
          rw [HLE2.out, HSE2.out]
          clear hh
          have HB17 := Lib.hid (HB16.out.trans (hb.mono HB16.out.size))
          have HX17 := Lib.hid (HX16.out.later hb)
          have HU8n := Lib.hid (HU8.out.later hb)
          clear HU8
          have HU8 := HU8n
          clear HU8n
          have HS9n := Lib.hid (HS9.out.later hb)
          clear HS9
          have HS9 := HS9n
          clear HS9n
          clear hb x0 x1 xf xz HB16 HX16
          obtain ⟨x0, x1, xf, xz⟩ := HX17.out.v2
          go_wp2_with fail
          go_ret
          exact ⟨rfl, HB17.out⟩
        have hko : k < o.length := by rw [HOL.out]; exact hlt
        have hks : k < outs.length := by rw [HSL.out]; exact hlt
        obtain ⟨_, _, e7, _, hA7⟩ := id HS71.out
        rw [HOL.out] at e7
        cases e7
        obtain ⟨b7, o7, rfl, hbb7, hc7'⟩ := hA7 (by omega)
        obtain ⟨_, _, e5, hl5, hA5⟩ := id HS51.out
        rw [HSL.out] at e5 hl5
        cases e5
        obtain ⟨b5, o5, rfl, hbb5, hc5'⟩ := hA5 (by omega)
        have p0 := (hc7' k hko).c1
        have s0 := (hc5' k hks).c1
        rw [Nat.mul_one] at p0 s0
        have hok := HOR.out.ins _ (List.getElem_mem hko)
        rw [HR3.out] at hok
        have hsb := HSB.out k (by rw [HR3.out]; exact hlt)
        have HEAk := Lib.hid (fun t h0 ht => HEA.out k (by rw [HR3.out]; exact hlt) t h0 ht)
        have HTAK := Lib.hid (fun (u : World) (hb : Below U1.heap.size U1 u) => (HS51.out.later hb).take k (by omega))
        have hg : outs.getD k 0 = outs[k] := by rw [List.getD_eq_getElem?_getD, List.getElem?_eq_getElem hks, Option.getD_some]
        rw [hg] at hsb HEAk
        clear hA7 hA5 hc7' hc5' hg
        generalize o[k] = x at *
        generalize outs[k] = s at *
        have HLT := Lib.hid (show (outs.take k).length = k by rw [List.length_take]; omega)
        obtain ⟨lt, hlt0⟩ : ∃ l, outs.take k = l := ⟨_, rfl⟩
        rw [hlt0] at HEAk HTAK HLT
        clear hlt0
        have d11 : decide (x < 0) = false := decide_eq_false (by omega)
        have d12 : decide ((n3 : Int) ≤ x) = false := decide_eq_false (by omega)
        have d13 : decide (s < 0) = false := decide_eq_false (by omega)
        by_cases hs0 : s = 0
        · subst hs0
          go_wp2_with fail
          go_roundw
          case rel => exact ⟨k + 1, by omega, by go_num, HK1.out⟩
          case measure => simp [intOf]; omega
        have e8 : (s == 0) = false := beq_eq_false_iff_ne.2 hs0
        have k8 : IntKind.i64.wrap (s - 1) = s - 1 := IntWalk.i64_in _ (by omega)
        obtain ⟨s1, hs1⟩ : ∃ y, s - 1 = y := ⟨_, rfl⟩
        rw [hs1] at k8
        have k9 : IntKind.i64.wrap (s - 1) = s1 := by rw [hs1]; exact k8
        clear k8
        have hb : Below U1.heap.size U1 (U1.alloc (.cells #[.int .i64 0, .int .i64 s1] 3)) := (Below.refl _ _).alloc (Nat.le_refl _) _
        have HB2 := Lib.hid (HB1.out.trans (hb.mono HB1.out.size))
        have HX2 := Lib.hid (HX1.out.later hb)
        have HK2 := Lib.hid (HK1.out.trans (hb.mono HK1.out.size))
        have HJ2 := Lib.hid hb
        have HG2 := Lib.hid (Box.new U1 #[.int .i64 0, .int .i64 s1] 3)
        clear hb
        go_wp2_with fail
        clear x0 x1 xf xz p0 s0
        generalize hU2 : U1.alloc (.cells #[.int .i64 0, .int .i64 s1] 3) = U2 at *
        clear hU2
        go_loopw [142] (fun i wr => ∃ j : Nat, j ≤ 2 ∧ i = .int .i64 j ∧ Below U2.heap.size U2 wr) (fun i _ => 2 - (intOf i).toNat)
        case atStart => exact ⟨0, by omega, rfl, Below.refl _ _⟩
        case round =>
          obtain ⟨j, hj, rfl, hbe⟩ := hrel
          obtain ⟨U3, hU3⟩ : ∃ U : World, U = wr := ⟨_, rfl⟩
          subst hU3
          have HB3 := Lib.hid (HB2.out.trans (hbe.mono HB2.out.size))
          have HX3 := Lib.hid (HX2.out.later hbe)
          have HK3 := Lib.hid (HK2.out.trans (hbe.mono HK2.out.size))
          have HJ3 := Lib.hid (HJ2.out.trans (hbe.mono HJ2.out.size))
          have HG3 := Lib.hid (HG2.out.later hbe)
          have HI3 := Lib.hid hbe
          clear hbe
          obtain ⟨x0, x1, xf, xz⟩ := HX3.out.v2
          obtain ⟨g0, g1, gf, gz⟩ := HG3.out.v2
          by_cases hj2 : j < 2
          rotate_left
          · obtain rfl : j = 2 := by omega
            go_wp2_with fail
            go_roundw
            case rel => exact ⟨k + 1, by omega, by go_num, HK3.out⟩
            case measure => simp [intOf]; omega
          obtain ⟨t, ht⟩ : ∃ t : Int, (if j = 0 then 0 else s1) = t := ⟨_, rfl⟩
          have gt : U3.cell? ⟨U1.heap.size, j, none⟩ = some (.int .i64 t) := by
            rcases (show j = 0 ∨ j = 1 by omega) with rfl | rfl
            · rw [← ht]; exact g0
            · rw [← ht]; exact g1
          have htb : 0 ≤ t ∧ t < s := by
            rw [← ht]
            split <;> omega
          have HE16 := Lib.hid (HEAk.out t htb.1 htb.2)
          have HTK3 := Lib.hid (HTAK.out U3 HJ3.out)
          have hkc : (k : Int) ≤ (c5 : Int) := by omega
          have hkc3 : (k : Int) + 1 ≤ (c3 : Int) := by have := HCC.out; omega
          have k10 : IntKind.i64.wrap ((k : Int) + 1) = ((k + 1 : Nat) : Int) := by rw [IntWalk.i64_in _ (by omega)]; omega
          clear g0 g1 ht
          have HATL := Lib.hid (show ∀ i (h : i < lt.length), ∀ q u, (encI lt[i])[q]? = some u → (U3.alloc (.cells #[] 3)).cell? ((⟨b5, o5, none⟩ : Addr).add (i * 1 + q)) = some u from by
            intro i h q u hu
            obtain ⟨_, _, e9, _, hA9⟩ := id HTK3.out
            rw [HLT.out] at e9
            obtain ⟨bb, oo, e10, hbb, hcc⟩ := hA9 (by omega)
            injection e9 with e11 e12 e13
            rw [e10] at e11
            cases e11
            have h1 := ((hcc i h).below ((Below.refl _ _).alloc (Nat.le_refl _) (.cells #[] 3)) hbb) q u hu
            rw [Addr.add_lit, ← Nat.add_assoc]
            exact h1)
          have HLIT := Lib.hid (Own.lit (f := encI) (sz := 1) (l := []) encI_len 3 U3 #[] 0 U3.heap.size rfl rfl (by simp) (Nat.le_refl _))
          have HSA := Lib.hid (show U3.heap.size ≤ (U3.alloc (.cells #[] 3)).heap.size by simp)
          go_wp2_with (first
            | (at_builtin; refine wpList_cat encI 1 8 26 3 _ Tryz.underlying26 infoI rfl (by decide) (by decide) encI_len encI_one [] lt U3.heap.size (U3.alloc (.cells #[] 3)) (.slice (some ⟨U3.heap.size, 0, none⟩) 0 0) HLIT.out HSA.out (by have := HLT.out; simp; omega) ⟨b5, o5, none⟩ c5 HATL.out rfl _ _ rfl rfl (by rw [HLT.out]; rfl) ?_; intro vA wA hoA hgA; have OA := Lib.hid (show Own encI 1 3 wA U3.heap.size vA lt from hoA); have GA := Lib.hid (show (U3.alloc (.cells #[] 3)).grownBy wA (some U3.heap.size) from hgA); have HSB2 := Lib.hid (show U3.heap.size ≤ (wA.alloc (.cells #[.int .i64 t] 3)).heap.size by have := hgA.size; simp at this ⊢; omega); have HNA := Lib.hid (show (wA.alloc (.cells #[.int .i64 t] 3)).heap[wA.heap.size]? = some (.cells #[.int .i64 t] 3 (0, 0)) by simpa using heap_alloc_new wA (.cells #[.int .i64 t] 3)); clear hoA hgA)
            | (at_builtin; refine wpList_pushB encI 1 8 26 3 _ Tryz.underlying26 infoI rfl (by decide) (by decide) encI_len encI_one lt t U3.heap.size (wA.alloc (.cells #[.int .i64 t] 3)) wA.heap.size #[.int .i64 t] 3 HNA.out rfl vA (OA.out.alloc _) HSB2.out (by have := HLT.out; omega) rfl _ _ rfl rfl rfl ?_; intro vB wB hoB hgB; obtain ⟨aB, cB, hvB⟩ := hoB.shape; subst hvB; have OB := Lib.hid hoB; have MB := Lib.hid (nx_mid OA.out GA.out hgB).2; generalize (lt ++ [t]).length = nB at *; have HBE2 := Lib.hid (HB3.out.trans (MB.out.mono HB3.out.size)); have HX4 := Lib.hid (HX3.out.later MB.out); clear x0 x1 xf xz; obtain ⟨x0, x1, xf, xz⟩ := HX4.out.v2; clear hoB hgB))
          have HSL4 := Lib.hid (OB.out.toSl encI_len (by have := HLT.out; simp; omega))
          have HK55 := Lib.hid (fun (Y : Later wB) => by
            have h := D55.out Y.w (HBE2.out.trans (Y.h.mono HBE2.out.size)) (k + 1) (by rw [HR3.out]; omega) _ _ (HSL4.out.later Y.h)
            rw [HE16.out] at h
            exact h)
          refine wp_region_later (by kernel_rfl) (by kernel_rfl) ?_
          repeat go_big_quiet_step ((go_at_call 55; exact Calls.later (HK55.out _)))
          refine wpQuiet_nil ?_
          rintro w9 ⟨⟨_, hb⟩, rfl⟩
          have HI9 := Lib.hid ((HI3.out.trans (MB.out.mono HI3.out.size)).trans (hb.mono (HI3.out.trans (MB.out.mono HI3.out.size)).size))
          clear hb x0 x1 xf xz
          go_wp2_with fail
          go_roundw
          case rel => exact ⟨j + 1, by omega, by go_num, HI9.out⟩
          case measure => simp [intOf]; omega
end Go.Proofs.YtahpdkkpnkhnhaaGreatDoor
/- Opening the arguments: a trip; sources and sinks. -/
namespace Go.Proofs.YtahpdkkpnkhnhaaGreatDoor
open Go Go.Proofs Go.RowKit Go.ChangeShapes Go.WideShapes Go.ChangeAt Go.Joins Go.Deep
section
variable {H : Type} {enc : TypeId × Value → H} {W : World}
theorem ints_le {n c : Nat} {a : Option Addr} {d : DataW H} {p : List MemPlace} (h : DataW.Trod enc Tryz.prog W 0 (fun _ => true) true 26 (.slice a n c) d p) :
    n ≤ 9223372036854775807 ∧ ∃ l, n ≤ 80 → Sl encI 1 W W.heap.size (.slice a n c) l := by
  obtain ⟨fuel, hf⟩ := h
  obtain ⟨k1, k2⟩ := sl_ints hf
  refine ⟨k1, ?_⟩
  by_cases h8 : n ≤ 80
  · obtain ⟨l, _, h2, _⟩ := k2 (by omega)
    exact ⟨l, fun _ => h2⟩
  · exact ⟨[], fun h => absurd h h8⟩
end
end Go.Proofs.YtahpdkkpnkhnhaaGreatDoor
/- Opening the arguments: tasks. -/
namespace Go.Proofs.YtahpdkkpnkhnhaaGreatDoor
open Go Go.Proofs Go.RowKit Go.ChangeShapes Go.WideShapes Go.ChangeAt Go.Joins Go.Deep
section
variable {H : Type} {enc : TypeId × Value → H} {W : World}
set_option maxRecDepth 100000 in
theorem tv_open {fuel : Nat} {cs : List Value} {x : DataW H × List MemPlace} (h : DataW.trod enc Tryz.prog W 0 (fun _ => true) true fuel 114 cs = some x) : ∃ t : TkV, cs = TkV.enc t ∧ TkF W W.heap.size t := by
  obtain ⟨xs, n, _, _, hl, hx, hf⟩ := DataW.trod_struct Tryz.underlying114 h
  rw [show Tryz.prog.cellsOf 114 = 3 from by kernel_rfl] at hl
  match cs, hl with
  | [c0, c1, c2], _ =>
    have f0 : DataW.trod enc Tryz.prog W 0 (fun _ => true) true n 26 (([c0, c1, c2].drop 0).take (Tryz.prog.cellsOf 26)) = xs[0]? := hf 0 _ rfl
    have f1 : DataW.trod enc Tryz.prog W 0 (fun _ => true) true n 9 (([c0, c1, c2].drop 1).take (Tryz.prog.cellsOf 9)) = xs[1]? := hf 1 _ rfl
    have f2 : DataW.trod enc Tryz.prog W 0 (fun _ => true) true n 3 (([c0, c1, c2].drop 2).take (Tryz.prog.cellsOf 3)) = xs[2]? := hf 2 _ rfl
    have hx2 : xs.length = 3 := hx
    rw [List.getElem?_eq_getElem (show 0 < xs.length by omega), show Tryz.prog.cellsOf 26 = 1 from by kernel_rfl] at f0
    rw [List.getElem?_eq_getElem (show 1 < xs.length by omega), show Tryz.prog.cellsOf 9 = 1 from by kernel_rfl] at f1
    rw [List.getElem?_eq_getElem (show 2 < xs.length by omega), show Tryz.prog.cellsOf 3 = 1 from by kernel_rfl] at f2
    have f0 : DataW.trod enc Tryz.prog W 0 (fun _ => true) true n 26 [c0] = some xs[0] := f0
    obtain ⟨a1, n1, c1', e0⟩ := slice_form Tryz.underlying26 f0
    obtain ⟨s, e1, _, hs⟩ := DataW.trod_string Tryz.underlying9 f1
    obtain ⟨r, e2, _, w2⟩ := DataW.trod_int Tryz.underlying3 f2
    simp at e0 e1 e2
    subst e0 e1 e2
    obtain ⟨k1, l, k2⟩ := ints_le ⟨_, f0⟩
    exact ⟨⟨a1, n1, c1', s, r, l⟩, rfl, k1, hs, k2⟩
theorem tasks_open {n c : Nat} {a : Option Addr} {d : DataW H} {p : List MemPlace} (h : DataW.Trod enc Tryz.prog W 0 (fun _ => true) true 73 (.slice a n c) d p) :
    n ≤ 9223372036854775807 ∧ ∃ l, TvR W W.heap.size (.slice a n c) n l := by
  obtain ⟨fuel, hf⟩ := h
  obtain ⟨k1, k2⟩ := sl_open TkV.enc 3 Tryz.underlying73 (by omega) (by kernel_rfl) TkV.enc_len tv0 (TkF W W.heap.size) tv_open hf
  refine ⟨k1, ?_⟩
  by_cases h8 : n ≤ 20
  · obtain ⟨l, h1, h2, h3⟩ := k2 (by omega)
    exact ⟨l, fun _ => ⟨h2, h1, h3⟩⟩
  · exact ⟨[], fun h => absurd h h8⟩
end
end Go.Proofs.YtahpdkkpnkhnhaaGreatDoor
