/- Lemmas on the way to the law PathSchedules (part 6): Sj Kd Ke Jc Jd -/
import Derived.Test.YtahpdkkpnkhnhaaGreatDoorPathSchedulesP05
import Derived.Test.YtahpdkkpnkhnhaaGreatDoorLib29
import Derived.Test.YtahpdkkpnkhnhaaGreatDoorLib28
set_option linter.unusedVariables false
set_option linter.unusedSimpArgs false

/- Walks: the law PathSchedules. -/
namespace Go.Proofs.YtahpdkkpnkhnhaaGreatDoor
open Go Go.Proofs Go.RowKit Go.Shelf
theorem own_ni {w : World} {B : Nat} {v : Value} (h : Own encI 1 3 w B v []) : ∃ a c, v = .slice a 0 c := by
  obtain ⟨a, c, e⟩ := h.shape
  exact ⟨a, c, e⟩
theorem SchE.bad {w : World} {p : Pl} {ts : List Tk} {e : Ending} {w' : World} (h : SchE w p ts e w') (hE : ckTasks p ts ≠ 0) : ∃ a c, e = .returned (.tuple #[.slice a 0 c, .int .i64 (ckTasks p ts)]) ∧ Below w.heap.size w w' := by
  obtain ⟨v, outs, rfl, ho, hif, hb⟩ := h
  rw [if_pos hE] at hif
  subst hif
  obtain ⟨a, c, rfl⟩ := own_ni ho
  exact ⟨a, c, rfl, hb⟩
theorem SchE.good {w : World} {p : Pl} {ts : List Tk} {e : Ending} {w' : World} (h : SchE w p ts e w') (hE : ckTasks p ts = 0) : ∃ v outs, e = .returned (.tuple #[v, .int .i64 0]) ∧ Sl encI 1 w' w'.heap.size v outs ∧ outs.length = ts.length ∧ SchedR p ts outs ∧ Below w.heap.size w w' := by
  obtain ⟨v, outs, rfl, ho, hif, hb⟩ := h
  rw [if_neg (by simpa using hE)] at hif
  rw [hE]
  have := (ckTasks_ok hE).2.1
  exact ⟨v, outs, rfl, ho.toSl encI_len (by omega), hif.1, hif.2, hb⟩
theorem BehPost.sl {w : World} {l : List Int} {e : Ending} {w' : World} (h : BehPost w l e w') (hl : l.length ≤ 1000000000) : ∃ v, e = .returned v ∧ Sl encI 1 w' w'.heap.size v l ∧ Below w.heap.size w w' := by
  obtain ⟨v, rfl, ho, hb⟩ := h
  exact ⟨v, rfl, ho.toSl encI_len hl, hb⟩
set_option maxRecDepth 100000 in
set_option maxHeartbeats 4000000 in
theorem schedules8 (w : World) (a1 a2 a3 a4 : Option Addr) (n1 n2 n3 n4 c1 c2 c3 c4 : Nat) (p : Pl) (tv : List TkV) (st : List Int) (hwd : WdR w) (hn1 : n1 ≤ 9223372036854775807) (hn2 : n2 ≤ 9223372036854775807) (hn3 : n3 ≤ 9223372036854775807) (hn4 : n4 ≤ 9223372036854775807)
    (hv : n1 ≤ 70 → n2 ≤ 260 → PlR w w.heap.size (.slice a1 n1 c1) (.slice a2 n2 c2) p ∧ p.ms.length = n1 ∧ p.arcs.length = n2 ∧ ∀ m ∈ p.ms, m.kind.size ≤ 9223372036854775807)
    (ht : TvR w w.heap.size (.slice a3 n3 c3) n3 tv) (hx : n4 ≤ 80 → Sl encI 1 w w.heap.size (.slice a4 n4 c4) st) :
    Calls Tryz.prog 8 #[.agg #[.slice a1 n1 c1, .slice a2 n2 c2], .slice a3 n3 c3, .slice a4 n4 c4] w (Ret (.bool true) w) := by
  obtain ⟨g, hg⟩ : ∃ g, heavyB p n1 n2 [] = g := ⟨_, rfl⟩
  have HH := Lib.hid (fun (w1 : World) (hb : Below w.heap.size w w1) => heavy17 w1 a1 a2 none n1 n2 0 c1 c2 0 p [] hn1 hn2 (fun x y => ⟨(hv x y).1.later hb, (hv x y).2⟩) (Sl.nil _ _ _ _ _ _) (by simp))
  rw [hg] at HH
  obtain ⟨mb, hmb⟩ : ∃ g, manyB n3 6 tv = g := ⟨_, rfl⟩
  have HM := Lib.hid (fun (w1 : World) (hb : Below w.heap.size w w1) => many51 w1 a3 n3 c3 6 tv hn3 (by omega) (ht.later hb))
  rw [hmb] at HM
  have HMB := Lib.hid hmb
  have HG := Lib.hid hg
  have HWD := Lib.hid hwd
  have HV := Lib.hid hv
  have HTV := Lib.hid ht
  have HXX := Lib.hid hx
  clear hwd hv hg ht hx hmb
  have HB := Lib.hid ((Below.refl w.heap.size w).alloc (Nat.le_refl _) (.cells #[.slice a1 n1 c1, .slice a2 n2 c2] 25))
  have HX := Lib.hid (Box.new w #[.slice a1 n1 c1, .slice a2 n2 c2] 25)
  go_enter Tryz.func8, Tryz.ntmps8
  go_wp2_with fail
  refine (awake16 _ (HWD.out.later HB.out)).mono ?_
  rintro e2 w2 ⟨rfl, hb⟩
  have HB2 := Lib.hid (HB.out.trans (hb.mono HB.out.size))
  have HX2 := Lib.hid (HX.out.later hb)
  clear hb
  obtain ⟨x0, x1, xf, xz⟩ := HX2.out.v2
  go_wp2_with fail
  refine (HH.out _ HB2.out).mono ?_
  rintro e3 w3 ⟨rfl, hb⟩
  have HB3 := Lib.hid (HB2.out.trans (hb.mono HB2.out.size))
  have HX3 := Lib.hid (HX2.out.later hb)
  clear hb x0 x1 xf xz HB2 HX2
  obtain ⟨x0, x1, xf, xz⟩ := HX3.out.v2
  cases g with
  | true =>
    go_wp2_with fail
    refine (awake16 _ (HWD.out.later HB3.out)).mono ?_
    rintro e4 w4 ⟨rfl, hb⟩
    have HB4 := Lib.hid (HB3.out.trans (hb.mono HB3.out.size))
    have HX4 := Lib.hid (HX3.out.later hb)
    clear hb x0 x1 xf xz HB3 HX3
    obtain ⟨x0, x1, xf, xz⟩ := HX4.out.v2
    go_wp2_with fail
    go_ret
    exact ⟨rfl, HB4.out⟩
  | false =>
    go_wp2_with fail
    refine (HM.out _ HB3.out).mono ?_
    rintro e5 w5 ⟨rfl, hb⟩
    have HB5 := Lib.hid (HB3.out.trans (hb.mono HB3.out.size))
    have HX5 := Lib.hid (HX3.out.later hb)
    clear hb x0 x1 xf xz HB3 HX3
    obtain ⟨x0, x1, xf, xz⟩ := HX5.out.v2
    cases mb with
    | true =>
      go_wp2_with fail
      refine (awake16 _ (HWD.out.later HB5.out)).mono ?_
      rintro e6 w6 ⟨rfl, hb⟩
      have HB6 := Lib.hid (HB5.out.trans (hb.mono HB5.out.size))
      have HX6 := Lib.hid (HX5.out.later hb)
      clear hb x0 x1 xf xz HB5 HX5
      obtain ⟨x0, x1, xf, xz⟩ := HX6.out.v2
      go_wp2_with fail
      go_ret
      exact ⟨rfl, HB6.out⟩
    | false =>
      by_cases h40 : 40 < n4
      · have d4 : decide ((40 : Int) < (n4 : Int)) = true := decide_eq_true (by omega)
        clear h40
        go_wp2_with fail
        refine (awake16 _ (HWD.out.later HB5.out)).mono ?_
        rintro e7 w7 ⟨rfl, hb⟩
        have HB7 := Lib.hid (HB5.out.trans (hb.mono HB5.out.size))
        have HX7 := Lib.hid (HX5.out.later hb)
        clear hb x0 x1 xf xz HB5 HX5
        obtain ⟨x0, x1, xf, xz⟩ := HX7.out.v2
        go_wp2_with fail
        go_ret
        exact ⟨rfl, HB7.out⟩
      have d4 : decide ((40 : Int) < (n4 : Int)) = false := decide_eq_false (by omega)
      obtain ⟨_, q2, q3, _, _⟩ := heavyB_no HG.out
      obtain ⟨hpl, _, _, _⟩ := HV.out q2 q3
      obtain ⟨r1, r2, r3, htr, hsz⟩ := manyB_no HMB.out HTV.out
      have hsl := HXX.out (by omega)
      generalize tv.map TkV.tk = ts at *
      have hst : st.length = n4 := by obtain ⟨_, _, e, _⟩ := hsl; injection e with e1 e2 e3; exact e2.symm
      have C52 := Lib.hid (fun (w1 : World) (hb : Below w.heap.size w w1) => checkTasks52 w1 _ _ _ p ts (hpl.later hb) (htr.later hb) hsz)
      have C53 := Lib.hid (fun (w1 : World) (hb : Below w.heap.size w w1) => checkTasks53 w1 _ _ _ p ts (HWD.out.later hb) (hpl.later hb) (htr.later hb) hsz)
      have C54 := Lib.hid (fun (w1 : World) (hb : Below w.heap.size w w1) => schedule54 w1 _ _ _ p ts (HWD.out.later hb) (hpl.later hb) (htr.later hb) hsz)
      have C55 := Lib.hid (fun (w1 : World) (hb : Below w.heap.size w w1) => checkSchedule55 w1 _ _ _ _ p ts st (HWD.out.later hb) (hpl.later hb) (htr.later hb) hsz (hsl.later hb))
      have C56 := Lib.hid (fun (w1 : World) (hb : Below w.heap.size w w1) => length56 w1 _ _ _ _ p ts st (HWD.out.later hb) (hpl.later hb) (htr.later hb) hsz (hsl.later hb))
      have C57 := Lib.hid (fun (w1 : World) (hb : Below w.heap.size w w1) => fun (outs : List Int) hp ht h16 hol hsc => schedule57 w1 _ _ _ p ts outs (hpl.later hb) (htr.later hb) hp ht h16 hol hsc)
      have C58 := Lib.hid (fun (w1 : World) (hb : Below w.heap.size w w1) => fun hp ht => checkSchedule58 w1 _ _ _ _ p ts st (hpl.later hb) (htr.later hb) (hsl.later hb) hp ht)
      have C59 := Lib.hid (fun (w1 : World) (hb : Below w.heap.size w w1) => fun hp ht hl hs => length59 w1 _ _ _ _ p ts st (hpl.later hb) (htr.later hb) (hsl.later hb) hp ht hl hs)
      have HCK := Lib.hid (fun h : ckTasks p ts = 0 => ckTasks_ok h)
      have HBAD := Lib.hid (fun (w0 : World) (e : Ending) (w9 : World) (h : SchE w0 p ts e w9) hE => h.bad hE)
      have HGOOD := Lib.hid (fun (w0 : World) (e : Ending) (w9 : World) (h : SchE w0 p ts e w9) hE => h.good hE)
      have HSO := Lib.hid (fun h : ckSch p ts st = 0 => ckSch_ok h)
      clear hpl hsl htr hsz q2 q3 h40 hst r1 r2
      have HR3 := Lib.hid r3
      clear r3
      obtain ⟨V, hV⟩ : ∃ c, lenE p ts st = c := ⟨_, rfl⟩
      obtain ⟨E, hE⟩ : ∃ c, schE p ts st = c := ⟨_, rfl⟩
      rw [hV, hE] at C56
      rw [hE] at C55
      unfold lenE at hV
      rw [hE] at hV
      unfold schE at hE
      obtain ⟨ct, hct⟩ : ∃ c, ckTasks p ts = c := ⟨_, rfl⟩
      obtain ⟨cs, hcs⟩ : ∃ c, ckSch p ts st = c := ⟨_, rfl⟩
      rw [hct] at C52 C53 HCK hE
      have HCT := Lib.hid hct
      rw [hcs] at C58 hE HSO
      clear hcs
      rw [hct] at HBAD HGOOD
      clear hct
      by_cases h0 : ct = 0
      rotate_left
      · rw [if_pos h0] at hE
        subst hE
        rw [if_pos h0] at hV
        subst hV
        have HE0 := Lib.hid h0
        have k0 : (ct == 0) = false := beq_eq_false_iff_ne.2 h0
        have k1 : (ct != 0) = true := by simpa using h0
        clear h0 C57 C58 C59 HCK HSO HGOOD
        go_wp2_with fail
        refine (C52.out _ HB5.out).mono ?_
        rintro e8 w8 ⟨rfl, hb⟩
        have HB8 := Lib.hid (HB5.out.trans (hb.mono HB5.out.size))
        have HX8 := Lib.hid (HX5.out.later hb)
        clear hb x0 x1 xf xz HB5 HX5
        obtain ⟨x0, x1, xf, xz⟩ := HX8.out.v2
        go_wp2_with fail
        refine (C53.out _ HB8.out).mono ?_
        rintro e9 w9 ⟨rfl, hb⟩
        have HB9 := Lib.hid (HB8.out.trans (hb.mono HB8.out.size))
        have HX9 := Lib.hid (HX8.out.later hb)
        clear hb x0 x1 xf xz HB8 HX8
        obtain ⟨x0, x1, xf, xz⟩ := HX9.out.v2
        go_wp2_with fail
        refine (C54.out _ HB9.out).mono ?_
        intro e10 w10 hh
        obtain ⟨a5, c5, rfl, hb⟩ := HBAD.out _ _ _ hh HE0.out
        clear hh
        have HB10 := Lib.hid (HB9.out.trans (hb.mono HB9.out.size))
        have HX10 := Lib.hid (HX9.out.later hb)
        clear hb x0 x1 xf xz HB9 HX9
        obtain ⟨x0, x1, xf, xz⟩ := HX10.out.v2
        go_wp2_with fail
        refine (C55.out _ HB10.out).mono ?_
        rintro e11 w11 ⟨rfl, hb⟩
        have HB11 := Lib.hid (HB10.out.trans (hb.mono HB10.out.size))
        have HX11 := Lib.hid (HX10.out.later hb)
        clear hb x0 x1 xf xz HB10 HX10
        obtain ⟨x0, x1, xf, xz⟩ := HX11.out.v2
        go_wp2_with fail
        refine (C56.out _ HB11.out).mono ?_
        rintro e12 w12 ⟨rfl, hb⟩
        have HB12 := Lib.hid (HB11.out.trans (hb.mono HB11.out.size))
        have HX12 := Lib.hid (HX11.out.later hb)
        clear hb x0 x1 xf xz HB11 HX11
        obtain ⟨x0, x1, xf, xz⟩ := HX12.out.v2
        go_wp2_with fail
        go_ret
        exact ⟨rfl, HB12.out⟩
      subst h0
      rw [if_neg (show ¬ (0 : Int) ≠ 0 by simp)] at hE
      subst hE
      obtain ⟨hp, h16, hck⟩ := HCK.out rfl
      have hall : ∀ t ∈ ts, OkT p t := fun t ht => (ckTk_ok (hck t ht)).1
      have HPP := Lib.hid hp
      have HAL := Lib.hid hall
      have H16 := Lib.hid h16
      clear hp h16 hck hall HCK HBAD
      have HGD := Lib.hid (fun (w0 : World) (e : Ending) (w9 : World) (h : SchE w0 p ts e w9) => HGOOD.out w0 e w9 h rfl)
      clear HGOOD
      have C58 := Lib.hid (fun (w1 : World) (hb : Below w.heap.size w w1) => C58.out w1 hb HPP.out HAL.out)
      go_wp2_with fail
      refine (C52.out _ HB5.out).mono ?_
      rintro e13 w13 ⟨rfl, hb⟩
      have HB13 := Lib.hid (HB5.out.trans (hb.mono HB5.out.size))
      have HX13 := Lib.hid (HX5.out.later hb)
      clear hb x0 x1 xf xz HB5 HX5
      obtain ⟨x0, x1, xf, xz⟩ := HX13.out.v2
      go_wp2_with fail
      refine (C53.out _ HB13.out).mono ?_
      rintro e14 w14 ⟨rfl, hb⟩
      have HB14 := Lib.hid (HB13.out.trans (hb.mono HB13.out.size))
      have HX14 := Lib.hid (HX13.out.later hb)
      clear hb x0 x1 xf xz HB13 HX13
      obtain ⟨x0, x1, xf, xz⟩ := HX14.out.v2
      go_wp2_with fail
      refine (C54.out _ HB14.out).mono ?_
      intro e15 w15 hh
      obtain ⟨v5, outs, rfl, hs5, hol, hsc, hb⟩ := HGD.out _ _ _ hh
      have HS5 := Lib.hid hs5
      have HOL := Lib.hid hol
      have HSC := Lib.hid hsc
      obtain ⟨a5, c5, rfl, _, _⟩ := hs5
      clear hol hsc
      clear hh
      have HB15 := Lib.hid (HB14.out.trans (hb.mono HB14.out.size))
      have HX15 := Lib.hid (HX14.out.later hb)
      clear hb x0 x1 xf xz HB14 HX14
      obtain ⟨x0, x1, xf, xz⟩ := HX15.out.v2
      obtain ⟨n5, hn5⟩ : ∃ n, outs.length = n := ⟨_, rfl⟩
      have HN5 := Lib.hid hn5
      rw [hn5] at HS5 ⊢
      clear hn5
      by_cases h1 : cs = 0
      rotate_left
      · rw [if_pos h1] at hV
        subst hV
        have m0 : (cs == 0) = false := beq_eq_false_iff_ne.2 h1
        have m1 : (cs != 0) = true := by simpa using h1
        clear h1 C59 HSO
        go_wp2_with fail
        refine (C55.out _ HB15.out).mono ?_
        rintro e16 w16 ⟨rfl, hb⟩
        have HB16 := Lib.hid (HB15.out.trans (hb.mono HB15.out.size))
        have HX16 := Lib.hid (HX15.out.later hb)
        have HS5n := Lib.hid (HS5.out.later hb)
        clear HS5
        have HS5 := HS5n
        clear HS5n
        clear hb x0 x1 xf xz HB15 HX15
        obtain ⟨x0, x1, xf, xz⟩ := HX16.out.v2
        go_wp2_with fail
        refine (C56.out _ HB16.out).mono ?_
        rintro e17 w17 ⟨rfl, hb⟩
        have HB17 := Lib.hid (HB16.out.trans (hb.mono HB16.out.size))
        have HX17 := Lib.hid (HX16.out.later hb)
        have HS5n := Lib.hid (HS5.out.later hb)
        clear HS5
        have HS5 := HS5n
        clear HS5n
        clear hb x0 x1 xf xz HB16 HX16
        obtain ⟨x0, x1, xf, xz⟩ := HX17.out.v2
        go_wp2_with fail
        refine (C57.out _ HB17.out outs HPP.out HAL.out H16.out HOL.out HSC.out).mono ?_
        intro e18 w18 hh
        obtain ⟨v6, rfl, hs6, hb⟩ := hh.sl (by have := H16.out; have := HOL.out; omega)
        have HS6 := Lib.hid hs6
        obtain ⟨a6, c6, rfl, _, _⟩ := hs6
        rw [HN5.out] at HS6 ⊢
        clear hh
        have HB18 := Lib.hid (HB17.out.trans (hb.mono HB17.out.size))
        have HX18 := Lib.hid (HX17.out.later hb)
        have HS5n := Lib.hid (HS5.out.later hb)
        clear HS5
        have HS5 := HS5n
        clear HS5n
        clear hb x0 x1 xf xz HB17 HX17
        obtain ⟨x0, x1, xf, xz⟩ := HX18.out.v2
        go_wp2_with fail
        refine (aw_same HS5.out HS6.out).mono ?_
        rintro e19 w19 ⟨rfl, hb⟩
        have HB19 := Lib.hid (HB18.out.trans (hb.mono HB18.out.size))
        have HX19 := Lib.hid (HX18.out.later hb)
        have HS5n := Lib.hid (HS5.out.later hb)
        clear HS5
        have HS5 := HS5n
        clear HS5n
        have HS6n := Lib.hid (HS6.out.later hb)
        clear HS6
        have HS6 := HS6n
        clear HS6n
        clear hb x0 x1 xf xz HB18 HX18
        obtain ⟨x0, x1, xf, xz⟩ := HX19.out.v2
        go_wp2_with fail
        refine (C58.out _ HB19.out).mono ?_
        rintro e20 w20 ⟨rfl, hb⟩
        have HB20 := Lib.hid (HB19.out.trans (hb.mono HB19.out.size))
        have HX20 := Lib.hid (HX19.out.later hb)
        have HS5n := Lib.hid (HS5.out.later hb)
        clear HS5
        have HS5 := HS5n
        clear HS5n
        have HS6n := Lib.hid (HS6.out.later hb)
        clear HS6
        have HS6 := HS6n
        clear HS6n
        clear hb x0 x1 xf xz HB19 HX19
        obtain ⟨x0, x1, xf, xz⟩ := HX20.out.v2
        go_wp2_with fail
        go_ret
        exact ⟨rfl, HB20.out⟩
      subst h1
      rw [if_neg (show ¬ (0 : Int) ≠ 0 by simp)] at hV
      obtain ⟨hl1, hl2⟩ := HSO.out rfl
      have C59 := Lib.hid (fun (w1 : World) (hb : Below w.heap.size w w1) => C59.out w1 hb HPP.out HAL.out hl1 hl2)
      rw [hV] at C59
      clear hV hl1 hl2 HSO
      go_wp2_with fail
      refine (C55.out _ HB15.out).mono ?_
      rintro e21 w21 ⟨rfl, hb⟩
      have HB21 := Lib.hid (HB15.out.trans (hb.mono HB15.out.size))
      have HX21 := Lib.hid (HX15.out.later hb)
      have HS5n := Lib.hid (HS5.out.later hb)
      clear HS5
      have HS5 := HS5n
      clear HS5n
      clear hb x0 x1 xf xz HB15 HX15
      obtain ⟨x0, x1, xf, xz⟩ := HX21.out.v2
      go_wp2_with fail
      refine (C56.out _ HB21.out).mono ?_
      rintro e22 w22 ⟨rfl, hb⟩
      have HB22 := Lib.hid (HB21.out.trans (hb.mono HB21.out.size))
      have HX22 := Lib.hid (HX21.out.later hb)
      have HS5n := Lib.hid (HS5.out.later hb)
      clear HS5
      have HS5 := HS5n
      clear HS5n
      clear hb x0 x1 xf xz HB21 HX21
      obtain ⟨x0, x1, xf, xz⟩ := HX22.out.v2
      go_wp2_with fail
      refine (C57.out _ HB22.out outs HPP.out HAL.out H16.out HOL.out HSC.out).mono ?_
      intro e23 w23 hh
      obtain ⟨v6, rfl, hs6, hb⟩ := hh.sl (by have := H16.out; have := HOL.out; omega)
      have HS6 := Lib.hid hs6
      obtain ⟨a6, c6, rfl, _, _⟩ := hs6
      rw [HN5.out] at HS6 ⊢
      clear hh
      have HB23 := Lib.hid (HB22.out.trans (hb.mono HB22.out.size))
      have HX23 := Lib.hid (HX22.out.later hb)
      have HS5n := Lib.hid (HS5.out.later hb)
      clear HS5
      have HS5 := HS5n
      clear HS5n
      clear hb x0 x1 xf xz HB22 HX22
      obtain ⟨x0, x1, xf, xz⟩ := HX23.out.v2
      go_wp2_with fail
      refine (aw_same HS5.out HS6.out).mono ?_
      rintro e24 w24 ⟨rfl, hb⟩
      have HB24 := Lib.hid (HB23.out.trans (hb.mono HB23.out.size))
      have HX24 := Lib.hid (HX23.out.later hb)
      have HS5n := Lib.hid (HS5.out.later hb)
      clear HS5
      have HS5 := HS5n
      clear HS5n
      have HS6n := Lib.hid (HS6.out.later hb)
      clear HS6
      have HS6 := HS6n
      clear HS6n
      clear hb x0 x1 xf xz HB23 HX23
      obtain ⟨x0, x1, xf, xz⟩ := HX24.out.v2
      go_wp2_with fail
      refine (C58.out _ HB24.out).mono ?_
      rintro e25 w25 ⟨rfl, hb⟩
      have HB25 := Lib.hid (HB24.out.trans (hb.mono HB24.out.size))
      have HX25 := Lib.hid (HX24.out.later hb)
      have HS5n := Lib.hid (HS5.out.later hb)
      clear HS5
      have HS5 := HS5n
      clear HS5n
      have HS6n := Lib.hid (HS6.out.later hb)
      clear HS6
      have HS6 := HS6n
      clear HS6n
      clear hb x0 x1 xf xz HB24 HX24
      obtain ⟨x0, x1, xf, xz⟩ := HX25.out.v2
      go_wp2_with fail
      refine (C59.out _ HB25.out).mono ?_
      rintro e26 w26 ⟨rfl, hb⟩
      have HB26 := Lib.hid (HB25.out.trans (hb.mono HB25.out.size))
      have HX26 := Lib.hid (HX25.out.later hb)
      have HS5n := Lib.hid (HS5.out.later hb)
      clear HS5
      have HS5 := HS5n
      clear HS5n
      have HS6n := Lib.hid (HS6.out.later hb)
      clear HS6
      have HS6 := HS6n
      clear HS6n
      clear hb x0 x1 xf xz HB25 HX25
      obtain ⟨x0, x1, xf, xz⟩ := HX26.out.v2
      go_wp2_with fail
      go_ret
      exact ⟨rfl, HB26.out⟩
end Go.Proofs.YtahpdkkpnkhnhaaGreatDoor

/- Walks: whether two states are the same, in the reference. -/
namespace Go.Proofs.YtahpdkkpnkhnhaaGreatDoor
open Go Go.Proofs Go.RowKit Go.Shelf
set_option maxRecDepth 100000 in
set_option maxHeartbeats 1000000 in
@[go_sem] theorem eq100 (r1 r2 : Bool) (f1 f2 : Int) (g1 g2 : ByteArray) (w : World) : (Op.equalIn 10000 100 (.agg #[.bool r1, .int .i64 f1, .string g1]) (.agg #[.bool r2, .int .i64 f2, .string g2])).run Tryz.prog w = .ok (r1 == r2 && (f1 == f2 && g1.toList == g2.toList)) w := by
  have u3 := Tryz.underlying3
  have u4 := Tryz.underlying4
  have u9 := Tryz.underlying9
  have a3 := Tryz.isAgg3
  have a4 := Tryz.isAgg4
  have a9 := Tryz.isAgg9
  have z3 := Tryz.sizeOf3
  have z4 := Tryz.sizeOf4
  have z9 := Tryz.sizeOf9
  rw [show (10000 : Nat) = 9999 + 1 from rfl, Op.equalIn]
  simp only [Sem.run_bind, run_underlying Tryz.underlying100, Result.andThen_ok]
  go_simp
  by_cases h1 : r1 = r2 <;> by_cases h2 : f1 = f2 <;> by_cases h3 : g1.toList = g2.toList <;> simp [h1, h2, h3]
end Go.Proofs.YtahpdkkpnkhnhaaGreatDoor

/- Walks: small helpers of the laws on states; whether a machine is fed. -/
namespace Go.Proofs.YtahpdkkpnkhnhaaGreatDoor
open Go Go.Proofs Go.RowKit Go.Shelf
/-- A slice of whatever length reads as a list. -/
def SlL {α : Type} (f : α → List Value) (sz : Nat) (w : World) (B : Nat) (v : Value) (l : List α) : Prop :=
  ∃ a c, v = .slice a l.length c ∧ (l.length ≤ 9223372036854775807 ∧ l.length ≤ c) ∧ (0 < l.length → ∃ b off, a = some ⟨b, off, none⟩ ∧ b < B ∧
    ∀ i (h : i < l.length), At w b (off + i * sz) (f l[i]))
theorem SlL.later {α : Type} {f : α → List Value} {sz : Nat} {w w' : World} {v : Value} {l : List α} (h : SlL f sz w w.heap.size v l) (hb : Below w.heap.size w w') : SlL f sz w' w'.heap.size v l := by
  obtain ⟨a, c, h1, h2, h3⟩ := h
  refine ⟨a, c, h1, h2, fun h0 => ?_⟩
  obtain ⟨b, off, h4, h5, h6⟩ := h3 h0
  exact ⟨b, off, h4, Nat.lt_of_lt_of_le h5 hb.size, fun i hi => (h6 i hi).below hb h5⟩
end Go.Proofs.YtahpdkkpnkhnhaaGreatDoor

/- Opening the arguments: a trip; sources and sinks. -/
namespace Go.Proofs.YtahpdkkpnkhnhaaGreatDoor
open Go Go.Proofs Go.RowKit Go.ChangeShapes Go.WideShapes Go.ChangeAt Go.Joins Go.Deep
section
variable {H : Type} {enc : TypeId × Value → H} {W : World}
theorem ints_le {n c : Nat} {a : Option Addr} {d : DataW H} {p : List MemPlace} (h : DataW.Trod enc Tryz.prog W 0 (fun _ => true) true 26 (.slice a n c) d p) :
    n ≤ 9223372036854775807 ∧ ∃ l, n ≤ 80 → Sl encI 1 W W.heap.size (.slice a n c) l := by
  obtain ⟨fuel, hf⟩ := h
  obtain ⟨k1, k2⟩ := sl_ints hf
  refine ⟨k1, ?_⟩
  by_cases h8 : n ≤ 80
  · obtain ⟨l, _, h2, _⟩ := k2 (by omega)
    exact ⟨l, fun _ => h2⟩
  · exact ⟨[], fun h => absurd h h8⟩
end
end Go.Proofs.YtahpdkkpnkhnhaaGreatDoor

/- Opening the arguments: tasks. -/
namespace Go.Proofs.YtahpdkkpnkhnhaaGreatDoor
open Go Go.Proofs Go.RowKit Go.ChangeShapes Go.WideShapes Go.ChangeAt Go.Joins Go.Deep
section
variable {H : Type} {enc : TypeId × Value → H} {W : World}
set_option maxRecDepth 100000 in
theorem tv_open {fuel : Nat} {cs : List Value} {x : DataW H × List MemPlace} (h : DataW.trod enc Tryz.prog W 0 (fun _ => true) true fuel 114 cs = some x) : ∃ t : TkV, cs = TkV.enc t ∧ TkF W W.heap.size t := by
  obtain ⟨xs, n, _, _, hl, hx, hf⟩ := DataW.trod_struct Tryz.underlying114 h
  rw [show Tryz.prog.cellsOf 114 = 3 from by kernel_rfl] at hl
  match cs, hl with
  | [c0, c1, c2], _ =>
    have f0 : DataW.trod enc Tryz.prog W 0 (fun _ => true) true n 26 (([c0, c1, c2].drop 0).take (Tryz.prog.cellsOf 26)) = xs[0]? := hf 0 _ rfl
    have f1 : DataW.trod enc Tryz.prog W 0 (fun _ => true) true n 9 (([c0, c1, c2].drop 1).take (Tryz.prog.cellsOf 9)) = xs[1]? := hf 1 _ rfl
    have f2 : DataW.trod enc Tryz.prog W 0 (fun _ => true) true n 3 (([c0, c1, c2].drop 2).take (Tryz.prog.cellsOf 3)) = xs[2]? := hf 2 _ rfl
    have hx2 : xs.length = 3 := hx
    rw [List.getElem?_eq_getElem (show 0 < xs.length by omega), show Tryz.prog.cellsOf 26 = 1 from by kernel_rfl] at f0
    rw [List.getElem?_eq_getElem (show 1 < xs.length by omega), show Tryz.prog.cellsOf 9 = 1 from by kernel_rfl] at f1
    rw [List.getElem?_eq_getElem (show 2 < xs.length by omega), show Tryz.prog.cellsOf 3 = 1 from by kernel_rfl] at f2
    have f0 : DataW.trod enc Tryz.prog W 0 (fun _ => true) true n 26 [c0] = some xs[0] := f0
    obtain ⟨a1, n1, c1', e0⟩ := slice_form Tryz.underlying26 f0
    obtain ⟨s, e1, _, hs⟩ := DataW.trod_string Tryz.underlying9 f1
    obtain ⟨r, e2, _, w2⟩ := DataW.trod_int Tryz.underlying3 f2
    simp at e0 e1 e2
    subst e0 e1 e2
    obtain ⟨k1, l, k2⟩ := ints_le ⟨_, f0⟩
    exact ⟨⟨a1, n1, c1', s, r, l⟩, rfl, k1, hs, k2⟩
/-- Tasks by value. -/
theorem tasks_open {n c : Nat} {a : Option Addr} {d : DataW H} {p : List MemPlace} (h : DataW.Trod enc Tryz.prog W 0 (fun _ => true) true 73 (.slice a n c) d p) :
    n ≤ 9223372036854775807 ∧ ∃ l, TvR W W.heap.size (.slice a n c) n l := by
  obtain ⟨fuel, hf⟩ := h
  obtain ⟨k1, k2⟩ := sl_open TkV.enc 3 Tryz.underlying73 (by omega) (by kernel_rfl) TkV.enc_len tv0 (TkF W W.heap.size) tv_open hf
  refine ⟨k1, ?_⟩
  by_cases h8 : n ≤ 20
  · obtain ⟨l, h1, h2, h3⟩ := k2 (by omega)
    exact ⟨l, fun _ => ⟨h2, h1, h3⟩⟩
  · exact ⟨[], fun h => absurd h h8⟩
end
end Go.Proofs.YtahpdkkpnkhnhaaGreatDoor
