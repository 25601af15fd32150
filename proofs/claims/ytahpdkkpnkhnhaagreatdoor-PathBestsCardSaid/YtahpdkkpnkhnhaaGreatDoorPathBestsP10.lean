/- Lemmas on the way to the law PathBests (part 10): Un Jc Jd -/
import Derived.Test.YtahpdkkpnkhnhaaGreatDoorPathBestsP04
import Derived.Test.YtahpdkkpnkhnhaaGreatDoorPathBestsP03
import Derived.Test.YtahpdkkpnkhnhaaGreatDoorLib29
import Derived.Test.YtahpdkkpnkhnhaaGreatDoorPathBestsP06
import Derived.Test.YtahpdkkpnkhnhaaGreatDoorPathBestsP08
import Derived.Test.YtahpdkkpnkhnhaaGreatDoorPathBestsP09
set_option linter.unusedVariables false
set_option linter.unusedSimpArgs false

/- Walks: the law PathBests. -/
namespace Go.Proofs.YtahpdkkpnkhnhaaGreatDoor
open Go Go.Proofs Go.RowKit Go.Shelf
set_option maxRecDepth 100000 in
set_option maxHeartbeats 4000000 in
theorem bests12 (w : World) (a1 a2 a3 : Option Addr) (n1 n2 n3 c1 c2 c3 : Nat) (p : Pl) (tv : List TkV) (hwd : WdR w) (hn1 : n1 ≤ 9223372036854775807) (hn2 : n2 ≤ 9223372036854775807) (hn3 : n3 ≤ 9223372036854775807)
    (hv : n1 ≤ 70 → n2 ≤ 260 → PlR w w.heap.size (.slice a1 n1 c1) (.slice a2 n2 c2) p ∧ p.ms.length = n1 ∧ p.arcs.length = n2 ∧ ∀ m ∈ p.ms, m.kind.size ≤ 9223372036854775807)
    (ht : TvR w w.heap.size (.slice a3 n3 c3) n3 tv) :
    Calls Tryz.prog 12 #[.agg #[.slice a1 n1 c1, .slice a2 n2 c2], .slice a3 n3 c3] w (Ret (.bool true) w) := by
  obtain ⟨g, hg⟩ : ∃ g, heavyB p n1 n2 [] = g := ⟨_, rfl⟩
  have HH := Lib.hid (fun (w1 : World) (hb : Below w.heap.size w w1) => heavy17 w1 a1 a2 none n1 n2 0 c1 c2 0 p [] hn1 hn2 (fun x y => ⟨(hv x y).1.later hb, (hv x y).2⟩) (Sl.nil _ _ _ _ _ _) (by simp))
  rw [hg] at HH
  obtain ⟨mb, hmb⟩ : ∃ g, manyB n3 8 tv = g := ⟨_, rfl⟩
  have HM := Lib.hid (fun (w1 : World) (hb : Below w.heap.size w w1) => many51 w1 a3 n3 c3 8 tv hn3 (by omega) (ht.later hb))
  rw [hmb] at HM
  have HMB := Lib.hid hmb
  have HG := Lib.hid hg
  have HWD := Lib.hid hwd
  have HV := Lib.hid hv
  have HTV := Lib.hid ht
  clear hwd hv hg ht hmb
  have HB := Lib.hid ((Below.refl w.heap.size w).alloc (Nat.le_refl _) (.cells #[.slice a1 n1 c1, .slice a2 n2 c2] 25))
  have HX := Lib.hid (Box.new w #[.slice a1 n1 c1, .slice a2 n2 c2] 25)
  go_enter Tryz.func12, Tryz.ntmps12
  go_wp2_with fail
  refine (awake16 _ (HWD.out.later HB.out)).mono ?_
  rintro e2 w2 ⟨rfl, hb⟩
  have HB2 := Lib.hid (HB.out.trans (hb.mono HB.out.size))
  have HX2 := Lib.hid (HX.out.later hb)
  clear hb
  obtain ⟨x0, x1, xf, xz⟩ := HX2.out.v2
  go_wp2_with fail
  refine (HH.out _ HB2.out).mono ?_
  rintro e3 w3 ⟨rfl, hb⟩
  have HB3 := Lib.hid (HB2.out.trans (hb.mono HB2.out.size))
  have HX3 := Lib.hid (HX2.out.later hb)
  clear hb x0 x1 xf xz HB2 HX2
  obtain ⟨x0, x1, xf, xz⟩ := HX3.out.v2
  cases g with
  | true =>
    go_wp2_with fail
    refine (awake16 _ (HWD.out.later HB3.out)).mono ?_
    rintro e4 w4 ⟨rfl, hb⟩
    have HB4 := Lib.hid (HB3.out.trans (hb.mono HB3.out.size))
    have HX4 := Lib.hid (HX3.out.later hb)
    clear hb x0 x1 xf xz HB3 HX3
    obtain ⟨x0, x1, xf, xz⟩ := HX4.out.v2
    go_wp2_with fail
    go_ret
    exact ⟨rfl, HB4.out⟩
  | false =>
    go_wp2_with fail
    refine (HM.out _ HB3.out).mono ?_
    rintro e5 w5 ⟨rfl, hb⟩
    have HB5 := Lib.hid (HB3.out.trans (hb.mono HB3.out.size))
    have HX5 := Lib.hid (HX3.out.later hb)
    clear hb x0 x1 xf xz HB3 HX3
    obtain ⟨x0, x1, xf, xz⟩ := HX5.out.v2
    cases mb with
    | true =>
      go_wp2_with fail
      refine (awake16 _ (HWD.out.later HB5.out)).mono ?_
      rintro e6 w6 ⟨rfl, hb⟩
      have HB6 := Lib.hid (HB5.out.trans (hb.mono HB5.out.size))
      have HX6 := Lib.hid (HX5.out.later hb)
      clear hb x0 x1 xf xz HB5 HX5
      obtain ⟨x0, x1, xf, xz⟩ := HX6.out.v2
      go_wp2_with fail
      go_ret
      exact ⟨rfl, HB6.out⟩
    | false =>
      by_cases h5 : n3 = 5
      · subst h5
        go_wp2_with fail
        refine (awake16 _ (HWD.out.later HB5.out)).mono ?_
        rintro e7 w7 ⟨rfl, hb⟩
        have HB7 := Lib.hid (HB5.out.trans (hb.mono HB5.out.size))
        have HX7 := Lib.hid (HX5.out.later hb)
        clear hb x0 x1 xf xz HB5 HX5
        obtain ⟨x0, x1, xf, xz⟩ := HX7.out.v2
        go_wp2_with fail
        go_ret
        exact ⟨rfl, HB7.out⟩
      have f5 : ((n3 : Int) == 5) = false := beq_eq_false_iff_ne.2 (by omega)
      have g5 : (n3 == 5) = false := beq_eq_false_iff_ne.2 h5
      by_cases h6 : n3 = 6
      · subst h6
        go_wp2_with fail
        refine (awake16 _ (HWD.out.later HB5.out)).mono ?_
        rintro e8 w8 ⟨rfl, hb⟩
        have HB8 := Lib.hid (HB5.out.trans (hb.mono HB5.out.size))
        have HX8 := Lib.hid (HX5.out.later hb)
        clear hb x0 x1 xf xz HB5 HX5
        obtain ⟨x0, x1, xf, xz⟩ := HX8.out.v2
        go_wp2_with fail
        go_ret
        exact ⟨rfl, HB8.out⟩
      have f6 : ((n3 : Int) == 6) = false := beq_eq_false_iff_ne.2 (by omega)
      have g6 : (n3 == 6) = false := beq_eq_false_iff_ne.2 h6
      obtain ⟨_, q2, q3, _, _⟩ := heavyB_no HG.out
      obtain ⟨hpl, _, _, _⟩ := HV.out q2 q3
      obtain ⟨r1, r2, r3, htr, hsz⟩ := manyB_no HMB.out HTV.out
      generalize tv.map TkV.tk = ts at *
      have C52 := Lib.hid (fun (w1 : World) (hb : Below w.heap.size w w1) => checkTasks52 w1 _ _ _ p ts (hpl.later hb) (htr.later hb) hsz)
      have C70 := Lib.hid (fun (w1 : World) (hb : Below w.heap.size w w1) => bound70 w1 _ _ _ p ts (HWD.out.later hb) (hpl.later hb) (htr.later hb) hsz)
      have C71 := Lib.hid (fun (w1 : World) (hb : Below w.heap.size w w1) => best71 w1 _ _ _ p ts (HWD.out.later hb) (hpl.later hb) (htr.later hb) hsz)
      have C72 := Lib.hid (fun (w1 : World) (hb : Below w.heap.size w w1) => fun hk => bound72 w1 _ _ _ p ts (hpl.later hb) (htr.later hb) hk)
      have C73 := Lib.hid (fun (w1 : World) (hb : Below w.heap.size w w1) => fun hk h6 => best73 w1 _ _ _ p ts (hpl.later hb) (htr.later hb) hk h6)
      have C40 := Lib.hid (fun (w1 : World) (hb : Below w.heap.size w w1) => fun v v2 l (h1 : Sl encI 1 w1 w1.heap.size v l) (h2 : Sl encI 1 w1 w1.heap.size v2 l) => sameInts40 v v2 l l w1 h1 h2)
      have HBL := Lib.hid (fun (h : TsOk p ts) (h6 : ts.length ≤ 6) => show (bestO (lenO p ts) (levO ts.length ts.length)).1.length ≤ 1000 from by
        have := (best_r h).ord.len
        omega)
      have HTO := Lib.hid (show ckTasks p ts = 0 → TsOk p ts from TsOk.of)
      clear hpl htr hsz q2 q3 r1 r2 h5 h6
      unfold BestQ at C71
      unfold BestP at C73
      obtain ⟨bE, hbE⟩ : ∃ x, bestE p ts = x := ⟨_, rfl⟩
      obtain ⟨bV, hbV⟩ : ∃ x, boundV p ts = x := ⟨_, rfl⟩
      obtain ⟨bT, hbT⟩ : ∃ x, boundTo p ts p.ms.length = x := ⟨_, rfl⟩
      obtain ⟨BO, hBO⟩ : ∃ x, (bestO (lenO p ts) (levO ts.length ts.length)).1 = x := ⟨_, rfl⟩
      obtain ⟨ck, hck⟩ : ∃ x, ckTasks p ts = x := ⟨_, rfl⟩
      unfold bestE at hbE
      unfold boundV at hbV
      rw [hck] at hbE hbV C52 HTO
      rw [hBO] at C71 C73 HBL
      rw [hbT] at C72
      rw [show bestE p ts = bE by unfold bestE; rw [hck]; exact hbE] at C71
      rw [show boundV p ts = bV by unfold boundV; rw [hck]; exact hbV] at C70
      rw [r3] at hbE C71 C73 HBL
      clear hck hBO r3
      by_cases h0 : ck = 0
      rotate_left
      · rw [if_pos h0] at hbE
        subst hbE
        rw [if_pos h0] at hbV
        subst hbV
        have HE0 := Lib.hid h0
        have k1 : (ck != 0) = true := bne_iff_ne.2 h0
        have k2 : (ck == ck) = true := beq_self_eq_true _
        clear h0 C72 C73 C40 HTO HBL
        go_wp2_with fail
        refine (C70.out _ HB5.out).mono ?_
        rintro e9 w9 ⟨rfl, hb⟩
        have HB9 := Lib.hid (HB5.out.trans (hb.mono HB5.out.size))
        have HX9 := Lib.hid (HX5.out.later hb)
        clear hb x0 x1 xf xz HB5 HX5
        obtain ⟨x0, x1, xf, xz⟩ := HX9.out.v2
        go_wp2_with fail
        refine (C71.out _ HB9.out).mono ?_
        intro e10 w10 hh
        obtain ⟨v7, l7, rfl, hs7, hz7, _, hb⟩ := id hh
        obtain rfl := hz7 HE0.out
        obtain ⟨a7, c7, rfl, _, _⟩ := id hs7
        clear hz7 hs7
        clear hh
        have HB10 := Lib.hid (HB9.out.trans (hb.mono HB9.out.size))
        have HX10 := Lib.hid (HX9.out.later hb)
        clear hb x0 x1 xf xz HB9 HX9
        obtain ⟨x0, x1, xf, xz⟩ := HX10.out.v2
        go_wp2_with fail
        refine (C52.out _ HB10.out).mono ?_
        rintro e11 w11 ⟨rfl, hb⟩
        have HB11 := Lib.hid (HB10.out.trans (hb.mono HB10.out.size))
        have HX11 := Lib.hid (HX10.out.later hb)
        clear hb x0 x1 xf xz HB10 HX10
        obtain ⟨x0, x1, xf, xz⟩ := HX11.out.v2
        go_wp2_with fail
        go_ret
        exact ⟨rfl, HB11.out⟩
      subst h0
      rw [if_neg (by simp)] at hbE hbV
      have HOK := Lib.hid (HTO.out rfl)
      rw [hbT] at hbV
      subst hbV
      clear hbT HTO
      go_wp2_with fail
      refine (C70.out _ HB5.out).mono ?_
      rintro e12 w12 ⟨rfl, hb⟩
      have HB12 := Lib.hid (HB5.out.trans (hb.mono HB5.out.size))
      have HX12 := Lib.hid (HX5.out.later hb)
      clear hb x0 x1 xf xz HB5 HX5
      obtain ⟨x0, x1, xf, xz⟩ := HX12.out.v2
      by_cases h6 : 6 < n3
      · rw [if_pos h6] at hbE
        subst hbE
        have d1 : decide ((6 : Int) < (n3 : Int)) = true := decide_eq_true (by omega)
        have d2 : decide (6 < n3) = true := decide_eq_true h6
        clear h6
        go_wp2_with fail
        refine (C71.out _ HB12.out).mono ?_
        intro e13 w13 hh
        obtain ⟨v7, l7, rfl, hs7, hz7, _, hb⟩ := id hh
        obtain rfl := hz7 (by decide)
        obtain ⟨a7, c7, rfl, _, _⟩ := id hs7
        clear hz7 hs7
        clear hh
        have HB13 := Lib.hid (HB12.out.trans (hb.mono HB12.out.size))
        have HX13 := Lib.hid (HX12.out.later hb)
        clear hb x0 x1 xf xz HB12 HX12
        obtain ⟨x0, x1, xf, xz⟩ := HX13.out.v2
        go_wp2_with fail
        refine (C52.out _ HB13.out).mono ?_
        rintro e14 w14 ⟨rfl, hb⟩
        have HB14 := Lib.hid (HB13.out.trans (hb.mono HB13.out.size))
        have HX14 := Lib.hid (HX13.out.later hb)
        clear hb x0 x1 xf xz HB13 HX13
        obtain ⟨x0, x1, xf, xz⟩ := HX14.out.v2
        go_wp2_with fail
        refine (C72.out _ HB14.out HOK.out).mono ?_
        rintro e15 w15 ⟨rfl, hb⟩
        have HB15 := Lib.hid (HB14.out.trans (hb.mono HB14.out.size))
        have HX15 := Lib.hid (HX14.out.later hb)
        clear hb x0 x1 xf xz HB14 HX14
        obtain ⟨x0, x1, xf, xz⟩ := HX15.out.v2
        go_wp2_with fail
        go_ret
        exact ⟨rfl, HB15.out⟩
      rw [if_neg h6] at hbE
      subst hbE
      have d1 : decide ((6 : Int) < (n3 : Int)) = false := decide_eq_false (by omega)
      have d2 : decide (6 < n3) = false := decide_eq_false h6
      have H6 := Lib.hid (show n3 ≤ 6 by omega)
      clear h6
      go_wp2_with fail
      refine (C71.out _ HB12.out).mono ?_
      intro e16 w16 hh
      obtain ⟨v7, l7, rfl, hs7, _, hg7, hb⟩ := id hh
      obtain ⟨_, _, rfl⟩ := hg7 (by first | rfl | trivial)
      have HS7 := Lib.hid hs7
      obtain ⟨a7, c7, rfl, _, _⟩ := id hs7
      obtain ⟨n7, hn7⟩ : ∃ x, l7.length = x := ⟨_, rfl⟩
      rw [hn7] at HS7 ⊢
      have HN7 := Lib.hid hn7
      clear hg7 hs7 hn7
      clear hh
      have HB16 := Lib.hid (HB12.out.trans (hb.mono HB12.out.size))
      have HX16 := Lib.hid (HX12.out.later hb)
      clear hb x0 x1 xf xz HB12 HX12
      obtain ⟨x0, x1, xf, xz⟩ := HX16.out.v2
      go_wp2_with fail
      refine (C52.out _ HB16.out).mono ?_
      rintro e17 w17 ⟨rfl, hb⟩
      have HB17 := Lib.hid (HB16.out.trans (hb.mono HB16.out.size))
      have HX17 := Lib.hid (HX16.out.later hb)
      have HS7n := Lib.hid (HS7.out.later hb)
      clear HS7
      have HS7 := HS7n
      clear HS7n
      clear hb x0 x1 xf xz HB16 HX16
      obtain ⟨x0, x1, xf, xz⟩ := HX17.out.v2
      go_wp2_with fail
      refine (C72.out _ HB17.out HOK.out).mono ?_
      rintro e18 w18 ⟨rfl, hb⟩
      have HB18 := Lib.hid (HB17.out.trans (hb.mono HB17.out.size))
      have HX18 := Lib.hid (HX17.out.later hb)
      have HS7n := Lib.hid (HS7.out.later hb)
      clear HS7
      have HS7 := HS7n
      clear HS7n
      clear hb x0 x1 xf xz HB17 HX17
      obtain ⟨x0, x1, xf, xz⟩ := HX18.out.v2
      go_wp2_with fail
      refine (C73.out _ HB18.out HOK.out H6.out).mono ?_
      intro e19 w19 hh
      obtain ⟨v8, rfl, hs8, hb⟩ := id hh
      have HS8 := Lib.hid hs8
      obtain ⟨a8, c8, rfl, _, _⟩ := id hs8
      rw [HN7.out] at HS8 ⊢
      clear hs8
      clear hh
      have HB19 := Lib.hid (HB18.out.trans (hb.mono HB18.out.size))
      have HX19 := Lib.hid (HX18.out.later hb)
      have HS7n := Lib.hid (HS7.out.later hb)
      clear HS7
      have HS7 := HS7n
      clear HS7n
      clear hb x0 x1 xf xz HB18 HX18
      obtain ⟨x0, x1, xf, xz⟩ := HX19.out.v2
      go_wp2_with fail
      refine (C40.out _ HB19.out _ _ _ HS7.out HS8.out).mono ?_
      intro e20 w20 hh
      obtain ⟨rfl, hb⟩ := id hh
      (try simp only [decide_true])
      clear hh
      have HB20 := Lib.hid (HB19.out.trans (hb.mono HB19.out.size))
      have HX20 := Lib.hid (HX19.out.later hb)
      have HS7n := Lib.hid (HS7.out.later hb)
      clear HS7
      have HS7 := HS7n
      clear HS7n
      have HS8n := Lib.hid (HS8.out.later hb)
      clear HS8
      have HS8 := HS8n
      clear HS8n
      clear hb x0 x1 xf xz HB19 HX19
      obtain ⟨x0, x1, xf, xz⟩ := HX20.out.v2
      go_wp2_with fail
      go_ret
      exact ⟨rfl, HB20.out⟩
end Go.Proofs.YtahpdkkpnkhnhaaGreatDoor
/- Opening the arguments: a trip; sources and sinks. -/
namespace Go.Proofs.YtahpdkkpnkhnhaaGreatDoor
open Go Go.Proofs Go.RowKit Go.ChangeShapes Go.WideShapes Go.ChangeAt Go.Joins Go.Deep
section
variable {H : Type} {enc : TypeId × Value → H} {W : World}
theorem ints_le {n c : Nat} {a : Option Addr} {d : DataW H} {p : List MemPlace} (h : DataW.Trod enc Tryz.prog W 0 (fun _ => true) true 26 (.slice a n c) d p) :
    n ≤ 9223372036854775807 ∧ ∃ l, n ≤ 80 → Sl encI 1 W W.heap.size (.slice a n c) l := by
  obtain ⟨fuel, hf⟩ := h
  obtain ⟨k1, k2⟩ := sl_ints hf
  refine ⟨k1, ?_⟩
  by_cases h8 : n ≤ 80
  · obtain ⟨l, _, h2, _⟩ := k2 (by omega)
    exact ⟨l, fun _ => h2⟩
  · exact ⟨[], fun h => absurd h h8⟩
end
end Go.Proofs.YtahpdkkpnkhnhaaGreatDoor
/- Opening the arguments: tasks. -/
namespace Go.Proofs.YtahpdkkpnkhnhaaGreatDoor
open Go Go.Proofs Go.RowKit Go.ChangeShapes Go.WideShapes Go.ChangeAt Go.Joins Go.Deep
section
variable {H : Type} {enc : TypeId × Value → H} {W : World}
set_option maxRecDepth 100000 in
theorem tv_open {fuel : Nat} {cs : List Value} {x : DataW H × List MemPlace} (h : DataW.trod enc Tryz.prog W 0 (fun _ => true) true fuel 114 cs = some x) : ∃ t : TkV, cs = TkV.enc t ∧ TkF W W.heap.size t := by
  obtain ⟨xs, n, _, _, hl, hx, hf⟩ := DataW.trod_struct Tryz.underlying114 h
  rw [show Tryz.prog.cellsOf 114 = 3 from by kernel_rfl] at hl
  match cs, hl with
  | [c0, c1, c2], _ =>
    have f0 : DataW.trod enc Tryz.prog W 0 (fun _ => true) true n 26 (([c0, c1, c2].drop 0).take (Tryz.prog.cellsOf 26)) = xs[0]? := hf 0 _ rfl
    have f1 : DataW.trod enc Tryz.prog W 0 (fun _ => true) true n 9 (([c0, c1, c2].drop 1).take (Tryz.prog.cellsOf 9)) = xs[1]? := hf 1 _ rfl
    have f2 : DataW.trod enc Tryz.prog W 0 (fun _ => true) true n 3 (([c0, c1, c2].drop 2).take (Tryz.prog.cellsOf 3)) = xs[2]? := hf 2 _ rfl
    have hx2 : xs.length = 3 := hx
    rw [List.getElem?_eq_getElem (show 0 < xs.length by omega), show Tryz.prog.cellsOf 26 = 1 from by kernel_rfl] at f0
    rw [List.getElem?_eq_getElem (show 1 < xs.length by omega), show Tryz.prog.cellsOf 9 = 1 from by kernel_rfl] at f1
    rw [List.getElem?_eq_getElem (show 2 < xs.length by omega), show Tryz.prog.cellsOf 3 = 1 from by kernel_rfl] at f2
    have f0 : DataW.trod enc Tryz.prog W 0 (fun _ => true) true n 26 [c0] = some xs[0] := f0
    obtain ⟨a1, n1, c1', e0⟩ := slice_form Tryz.underlying26 f0
    obtain ⟨s, e1, _, hs⟩ := DataW.trod_string Tryz.underlying9 f1
    obtain ⟨r, e2, _, w2⟩ := DataW.trod_int Tryz.underlying3 f2
    simp at e0 e1 e2
    subst e0 e1 e2
    obtain ⟨k1, l, k2⟩ := ints_le ⟨_, f0⟩
    exact ⟨⟨a1, n1, c1', s, r, l⟩, rfl, k1, hs, k2⟩
theorem tasks_open {n c : Nat} {a : Option Addr} {d : DataW H} {p : List MemPlace} (h : DataW.Trod enc Tryz.prog W 0 (fun _ => true) true 73 (.slice a n c) d p) :
    n ≤ 9223372036854775807 ∧ ∃ l, TvR W W.heap.size (.slice a n c) n l := by
  obtain ⟨fuel, hf⟩ := h
  obtain ⟨k1, k2⟩ := sl_open TkV.enc 3 Tryz.underlying73 (by omega) (by kernel_rfl) TkV.enc_len tv0 (TkF W W.heap.size) tv_open hf
  refine ⟨k1, ?_⟩
  by_cases h8 : n ≤ 20
  · obtain ⟨l, h1, h2, h3⟩ := k2 (by omega)
    exact ⟨l, fun _ => ⟨h2, h1, h3⟩⟩
  · exact ⟨[], fun h => absurd h h8⟩
end
end Go.Proofs.YtahpdkkpnkhnhaaGreatDoor
