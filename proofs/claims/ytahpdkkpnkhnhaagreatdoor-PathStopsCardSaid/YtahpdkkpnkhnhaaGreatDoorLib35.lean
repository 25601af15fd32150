/- Lemmas on the way to the laws (part 35): Lf -/
import Derived.Test.YtahpdkkpnkhnhaaGreatDoorLib34
set_option linter.unusedVariables false
set_option linter.unusedSimpArgs false

/- Walks: the law PathStops. -/
namespace Go.Proofs.YtahpdkkpnkhnhaaGreatDoor
open Go Go.Proofs Go.RowKit Go.Shelf

set_option maxRecDepth 100000 in
set_option maxHeartbeats 4000000 in
theorem stops7 (w : World) (a1 a2 a3 : Option Addr) (n1 n2 n3 c1 c2 c3 : Nat) (u : Value) (p : Pl) (st : List Sx) (l : List Int) (hwd : WdR w) (hn1 : n1 ≤ 9223372036854775807) (hn2 : n2 ≤ 9223372036854775807) (hn3 : n3 ≤ 9223372036854775807)
    (hv : n1 ≤ 70 → n2 ≤ 260 → PlR w w.heap.size (.slice a1 n1 c1) (.slice a2 n2 c2) p ∧ p.ms.length = n1 ∧ p.arcs.length = n2 ∧ ∀ m ∈ p.ms, m.kind.size ≤ 9223372036854775807)
    (hl : n3 ≤ 80 → Sl encI 1 w w.heap.size (.slice a3 n3 c3) l) (hu : SlL Sx.enc 3 w w.heap.size u st) (hs : SzR st) :
    Calls Tryz.prog 7 #[.agg #[.slice a1 n1 c1, .slice a2 n2 c2], u, .slice a3 n3 c3] w (Ret (.bool true) w) := by
  obtain ⟨g, hg⟩ : ∃ g, heavyB p n1 n2 [.slice a3 n3 c3] = g := ⟨_, rfl⟩
  have HH := Lib.hid (fun (w1 : World) (hb : Below w.heap.size w w1) (u : Option Addr) (hu : Sl Val1 1 w1 w1.heap.size (.slice u 1 1) [.slice a3 n3 c3]) => heavy17 w1 a1 a2 u n1 n2 1 c1 c2 1 p [.slice a3 n3 c3] hn1 hn2 (fun x y => ⟨(hv x y).1.later hb, (hv x y).2⟩) hu (by
    intro v hv
    rw [List.mem_singleton] at hv
    subst hv
    exact ⟨_, _, _, rfl, hn3⟩))
  rw [hg] at HH
  have HLG := Lib.hid (fun (w1 : World) (hb : Below w.heap.size w w1) => long25 u st w1 (hu.later hb) hs)
  obtain ⟨lb, hlb⟩ : ∃ g, longB st = g := ⟨_, rfl⟩
  rw [hlb] at HLG
  have HG := Lib.hid hg
  have HLB := Lib.hid hlb
  have HWD := Lib.hid hwd
  have HV := Lib.hid hv
  have HLL := Lib.hid hl
  have HU := Lib.hid hu
  have HSZ := Lib.hid hs
  obtain ⟨a4, c4, rfl, _, _⟩ := id hu
  obtain ⟨sn, hsn⟩ : ∃ n, st.length = n := ⟨_, rfl⟩
  rw [hsn] at HLG HU ⊢
  have HSN := Lib.hid hsn
  clear hwd hv hl hg hu hs hlb hsn
  have HB := Lib.hid ((Below.refl w.heap.size w).alloc (Nat.le_refl _) (.cells #[.slice a1 n1 c1, .slice a2 n2 c2] 25))
  have HX := Lib.hid (Box.new w #[.slice a1 n1 c1, .slice a2 n2 c2] 25)
  go_enter Tryz.func7, Tryz.ntmps7
  go_wp2_with fail
  refine (awake16 _ (HWD.out.later HB.out)).mono ?_
  rintro e2 w2 ⟨rfl, hb⟩
  have HB2 := Lib.hid (HB.out.trans (hb.mono HB.out.size))
  have HX2 := Lib.hid (HX.out.later hb)
  clear hb
  obtain ⟨x0, x1, xf, xz⟩ := HX2.out.v2
  go_wp2_with fail
  have hba : Below w2.heap.size w2 (w2.alloc (.cells #[.slice a3 n3 c3] 26)) := (Below.refl _ _).alloc (Nat.le_refl _) _
  have HBa := Lib.hid (HB2.out.trans (hba.mono HB2.out.size))
  have HXa := Lib.hid (HX2.out.later hba)
  clear hba x0 x1 xf xz
  refine (HH.out _ HBa.out _ (Sl.one rfl)).mono ?_
  rintro e3 w3 ⟨rfl, hb⟩
  have HB3 := Lib.hid (HBa.out.trans (hb.mono HBa.out.size))
  have HX3 := Lib.hid (HXa.out.later hb)
  clear hb HBa HXa
  obtain ⟨x0, x1, xf, xz⟩ := HX3.out.v2
  cases g with
  | true =>
    go_wp2_with fail
    refine (awake16 _ (HWD.out.later HB3.out)).mono ?_
    rintro e4 w4 ⟨rfl, hb⟩
    have HB4 := Lib.hid (HB3.out.trans (hb.mono HB3.out.size))
    have HX4 := Lib.hid (HX3.out.later hb)
    clear hb x0 x1 xf xz HB3 HX3
    obtain ⟨x0, x1, xf, xz⟩ := HX4.out.v2
    go_wp2_with fail
    go_ret
    exact ⟨rfl, HB4.out⟩
  | false =>
    go_wp2_with fail
    refine (HLG.out _ HB3.out).mono ?_
    rintro e5 w5 ⟨rfl, hb⟩
    have HB5 := Lib.hid (HB3.out.trans (hb.mono HB3.out.size))
    have HX5 := Lib.hid (HX3.out.later hb)
    clear hb x0 x1 xf xz HB3 HX3
    obtain ⟨x0, x1, xf, xz⟩ := HX5.out.v2
    cases lb with
    | true =>
      go_wp2_with fail
      refine (awake16 _ (HWD.out.later HB5.out)).mono ?_
      rintro e6 w6 ⟨rfl, hb⟩
      have HB6 := Lib.hid (HB5.out.trans (hb.mono HB5.out.size))
      have HX6 := Lib.hid (HX5.out.later hb)
      clear hb x0 x1 xf xz HB5 HX5
      obtain ⟨x0, x1, xf, xz⟩ := HX6.out.v2
      go_wp2_with fail
      go_ret
      exact ⟨rfl, HB6.out⟩
    | false =>
      obtain ⟨q1, q2, q3, _, _⟩ := heavyB_no HG.out
      obtain ⟨hpl, hm1, hm2, _⟩ := HV.out q2 q3
      have hsl := HLL.out (q1 _ (List.mem_singleton.2 rfl))
      obtain ⟨q4, _⟩ := longB_no HLB.out
      have hst := HU.out
      rw [← HSN.out] at hst
      have hst := hst.short (by omega)
      rw [HSN.out] at hst
      have C44 := Lib.hid (fun (w1 : World) (hb : Below w.heap.size w w1) => stop44 w1 _ _ _ _ p st l (HWD.out.later hb) (hpl.later hb) (hst.later hb) HSZ.out (hsl.later hb))
      have C45 := Lib.hid (fun (w1 : World) (hb : Below w.heap.size w w1) => clean45 w1 _ _ _ _ p st l (HWD.out.later hb) (hpl.later hb) (hst.later hb) HSZ.out (hsl.later hb))
      have C46 := Lib.hid (fun (w1 : World) (hb : Below w.heap.size w w1) => resume46 w1 _ _ _ _ p st l (HWD.out.later hb) (hpl.later hb) (hst.later hb) HSZ.out (hsl.later hb))
      have C27 := Lib.hid (fun (w1 : World) (hb : Below w.heap.size w w1) => checkState27 w1 _ _ _ p st (hpl.later hb) (hst.later hb) HSZ.out)
      have C22 := Lib.hid (fun (w1 : World) (hb : Below w.heap.size w w1) => checkPath22 w1 _ _ _ p l (hpl.later hb) (hsl.later hb))
      have C47 := Lib.hid (fun (w1 : World) (hb : Below w.heap.size w w1) => fun hin => isSet47 w1 _ _ st l (hst.later hb) (hsl.later hb) hin)
      have C48 := Lib.hid (fun (w1 : World) (hb : Below w.heap.size w w1) => fun cl hin hln hpos hrn => stop48 w1 _ _ _ _ cl p st l (hpl.later hb) (hst.later hb) (hsl.later hb) hin hln hpos hrn)
      have C49 := Lib.hid (fun (w1 : World) (hb : Below w.heap.size w w1) => fun hin hln hpos => resume49 w1 _ _ _ _ p st l (hpl.later hb) (hst.later hb) (hsl.later hb) hin hln hpos)
      have C50 := Lib.hid (fun (w1 : World) (hb : Below w.heap.size w w1) => fun hin hln => runs50 w1 _ _ _ _ p st l (hpl.later hb) (hst.later hb) (hsl.later hb) hin hln)
      have HTL := Lib.hid (show ∀ cl, (stopTo p l cl st l.length).length ≤ 1000000000 from fun cl => by rw [stopTo_len]; omega)
      have HRL := Lib.hid (show (resumeTo p l st l.length).length ≤ 1000000000 by rw [resumeTo_len]; omega)
      have HOK := Lib.hid (fun h : setE p st l = 0 => setE_ok h)
      have HRN := Lib.hid (fun h : ckState p st = 0 => runs_none h)
      clear hpl hsl hst hm1 hm2 q1 q2 q3 q4
      obtain ⟨E, hE⟩ : ∃ E, stopE p st l = E := ⟨_, rfl⟩
      obtain ⟨F, hF⟩ : ∃ E, cleanE p st l = E := ⟨_, rfl⟩
      rw [hE] at C44 C46
      rw [hF] at C45
      unfold stopE at hE
      unfold cleanE at hF
      unfold setE at hE hF HOK
      obtain ⟨cs, hcs⟩ : ∃ c, ckState p st = c := ⟨_, rfl⟩
      rw [hcs] at hE hF C27 HOK HRN
      clear hcs
      obtain ⟨cp, hcp⟩ : ∃ c, pathE p l = c := ⟨_, rfl⟩
      rw [hcp] at hE hF C22 HOK
      clear hcp
      obtain ⟨qs, hqs⟩ : ∃ c, setB st l = c := ⟨_, rfl⟩
      rw [hqs] at hE hF C47
      clear hqs
      obtain ⟨qr, hqr⟩ : ∃ c, runsB p st l = c := ⟨_, rfl⟩
      rw [hqr] at hF C50
      clear hqr
      by_cases h1 : cs = 0
      rotate_left
      · rw [if_pos h1, if_pos h1] at hE hF
        subst hE hF
        have HE0 := Lib.hid h1
        have k0 : (cs == 0) = false := beq_eq_false_iff_ne.2 h1
        have k1 : (cs != 0) = true := by simpa using h1
        clear h1 C22 C47 C48 C49 C50 HOK HRN
        go_wp2_with fail
        refine (C44.out _ HB5.out).mono ?_
        intro e7 w7 hh
        obtain ⟨a5, c5, rfl, hb⟩ := hh.bad HE0.out
        clear hh
        have HB7 := Lib.hid (HB5.out.trans (hb.mono HB5.out.size))
        have HX7 := Lib.hid (HX5.out.later hb)
        clear hb x0 x1 xf xz HB5 HX5
        obtain ⟨x0, x1, xf, xz⟩ := HX7.out.v2
        go_wp2_with fail
        refine (C45.out _ HB7.out).mono ?_
        intro e8 w8 hh
        obtain ⟨a6, c6, rfl, hb⟩ := hh.bad HE0.out
        clear hh
        have HB8 := Lib.hid (HB7.out.trans (hb.mono HB7.out.size))
        have HX8 := Lib.hid (HX7.out.later hb)
        clear hb x0 x1 xf xz HB7 HX7
        obtain ⟨x0, x1, xf, xz⟩ := HX8.out.v2
        go_wp2_with fail
        refine (C46.out _ HB8.out).mono ?_
        intro e9 w9 hh
        obtain ⟨a7, c7, rfl, hb⟩ := hh.bad HE0.out
        clear hh
        have HB9 := Lib.hid (HB8.out.trans (hb.mono HB8.out.size))
        have HX9 := Lib.hid (HX8.out.later hb)
        clear hb x0 x1 xf xz HB8 HX8
        obtain ⟨x0, x1, xf, xz⟩ := HX9.out.v2
        go_wp2_with fail
        refine (C27.out _ HB9.out).mono ?_
        rintro e10 w10 ⟨rfl, hb⟩
        have HB10 := Lib.hid (HB9.out.trans (hb.mono HB9.out.size))
        have HX10 := Lib.hid (HX9.out.later hb)
        clear hb x0 x1 xf xz HB9 HX9
        obtain ⟨x0, x1, xf, xz⟩ := HX10.out.v2
        go_wp2_with fail
        refine (states30_bad a5 c5 _ _ _ HE0.out).mono ?_
        rintro e11 w11 ⟨rfl, hb⟩
        have HB11 := Lib.hid (HB10.out.trans (hb.mono HB10.out.size))
        have HX11 := Lib.hid (HX10.out.later hb)
        clear hb x0 x1 xf xz HB10 HX10
        obtain ⟨x0, x1, xf, xz⟩ := HX11.out.v2
        go_wp2_with fail
        refine (states30_bad a6 c6 _ _ _ HE0.out).mono ?_
        rintro e12 w12 ⟨rfl, hb⟩
        have HB12 := Lib.hid (HB11.out.trans (hb.mono HB11.out.size))
        have HX12 := Lib.hid (HX11.out.later hb)
        clear hb x0 x1 xf xz HB11 HX11
        obtain ⟨x0, x1, xf, xz⟩ := HX12.out.v2
        go_wp2_with fail
        refine (states30_bad a7 c7 _ _ _ HE0.out).mono ?_
        rintro e13 w13 ⟨rfl, hb⟩
        have HB13 := Lib.hid (HB12.out.trans (hb.mono HB12.out.size))
        have HX13 := Lib.hid (HX12.out.later hb)
        clear hb x0 x1 xf xz HB12 HX12
        obtain ⟨x0, x1, xf, xz⟩ := HX13.out.v2
        go_wp2_with fail
        go_ret
        exact ⟨rfl, HB13.out⟩
      subst h1
      rw [if_neg (show ¬ (0 : Int) ≠ 0 by simp)] at hE hF HOK
      have hrn := HRN.out rfl
      clear HRN
      by_cases h1 : cp = 0
      rotate_left
      · rw [if_pos h1] at hE hF
        subst hE hF
        have HE0 := Lib.hid h1
        have k0 : (cp == 0) = false := beq_eq_false_iff_ne.2 h1
        have k1 : (cp != 0) = true := by simpa using h1
        clear h1 C47 C48 C49 C50 HOK hrn
        go_wp2_with fail
        refine (C44.out _ HB5.out).mono ?_
        intro e14 w14 hh
        obtain ⟨a5, c5, rfl, hb⟩ := hh.bad HE0.out
        clear hh
        have HB14 := Lib.hid (HB5.out.trans (hb.mono HB5.out.size))
        have HX14 := Lib.hid (HX5.out.later hb)
        clear hb x0 x1 xf xz HB5 HX5
        obtain ⟨x0, x1, xf, xz⟩ := HX14.out.v2
        go_wp2_with fail
        refine (C45.out _ HB14.out).mono ?_
        intro e15 w15 hh
        obtain ⟨a6, c6, rfl, hb⟩ := hh.bad HE0.out
        clear hh
        have HB15 := Lib.hid (HB14.out.trans (hb.mono HB14.out.size))
        have HX15 := Lib.hid (HX14.out.later hb)
        clear hb x0 x1 xf xz HB14 HX14
        obtain ⟨x0, x1, xf, xz⟩ := HX15.out.v2
        go_wp2_with fail
        refine (C46.out _ HB15.out).mono ?_
        intro e16 w16 hh
        obtain ⟨a7, c7, rfl, hb⟩ := hh.bad HE0.out
        clear hh
        have HB16 := Lib.hid (HB15.out.trans (hb.mono HB15.out.size))
        have HX16 := Lib.hid (HX15.out.later hb)
        clear hb x0 x1 xf xz HB15 HX15
        obtain ⟨x0, x1, xf, xz⟩ := HX16.out.v2
        go_wp2_with fail
        refine (C27.out _ HB16.out).mono ?_
        rintro e17 w17 ⟨rfl, hb⟩
        have HB17 := Lib.hid (HB16.out.trans (hb.mono HB16.out.size))
        have HX17 := Lib.hid (HX16.out.later hb)
        clear hb x0 x1 xf xz HB16 HX16
        obtain ⟨x0, x1, xf, xz⟩ := HX17.out.v2
        go_wp2_with fail
        refine (C22.out _ HB17.out).mono ?_
        rintro e18 w18 ⟨rfl, hb⟩
        have HB18 := Lib.hid (HB17.out.trans (hb.mono HB17.out.size))
        have HX18 := Lib.hid (HX17.out.later hb)
        clear hb x0 x1 xf xz HB17 HX17
        obtain ⟨x0, x1, xf, xz⟩ := HX18.out.v2
        go_wp2_with fail
        refine (states30_bad a5 c5 _ _ _ HE0.out).mono ?_
        rintro e19 w19 ⟨rfl, hb⟩
        have HB19 := Lib.hid (HB18.out.trans (hb.mono HB18.out.size))
        have HX19 := Lib.hid (HX18.out.later hb)
        clear hb x0 x1 xf xz HB18 HX18
        obtain ⟨x0, x1, xf, xz⟩ := HX19.out.v2
        go_wp2_with fail
        refine (states30_bad a6 c6 _ _ _ HE0.out).mono ?_
        rintro e20 w20 ⟨rfl, hb⟩
        have HB20 := Lib.hid (HB19.out.trans (hb.mono HB19.out.size))
        have HX20 := Lib.hid (HX19.out.later hb)
        clear hb x0 x1 xf xz HB19 HX19
        obtain ⟨x0, x1, xf, xz⟩ := HX20.out.v2
        go_wp2_with fail
        refine (states30_bad a7 c7 _ _ _ HE0.out).mono ?_
        rintro e21 w21 ⟨rfl, hb⟩
        have HB21 := Lib.hid (HB20.out.trans (hb.mono HB20.out.size))
        have HX21 := Lib.hid (HX20.out.later hb)
        clear hb x0 x1 xf xz HB20 HX20
        obtain ⟨x0, x1, xf, xz⟩ := HX21.out.v2
        go_wp2_with fail
        go_ret
        exact ⟨rfl, HB21.out⟩
      subst h1
      rw [if_neg (show ¬ (0 : Int) ≠ 0 by simp)] at hE hF
      have hok := HOK.out rfl
      have C47 := Lib.hid (fun (w1 : World) (hb : Below w.heap.size w w1) => C47.out w1 hb (by rw [hok.len]; exact hok.ins))
      have C48 := Lib.hid (fun (w1 : World) (hb : Below w.heap.size w w1) cl => C48.out w1 hb cl hok.ins hok.len hok.ok.pos hrn)
      have C49 := Lib.hid (fun (w1 : World) (hb : Below w.heap.size w w1) => C49.out w1 hb hok.ins hok.len hok.ok.pos)
      have C50 := Lib.hid (fun (w1 : World) (hb : Below w.heap.size w w1) => C50.out w1 hb hok.ins hok.len)
      clear hok HOK hrn
      cases qs with
      | true =>
        rw [if_pos rfl] at hE
        subst hE
        rw [Bool.true_and] at hF
        cases qr with
        | true =>
          rw [if_pos rfl] at hF
          subst hF
          go_wp2_with fail
          refine (C44.out _ HB5.out).mono ?_
          intro e22 w22 hh
          obtain ⟨vS5, rfl, hS5, hb⟩ := hh.good (HTL.out _)
          have HS5 := Lib.hid hS5
          obtain ⟨b5, cb5, rfl, _, _⟩ := hS5
          clear hh
          have HB22 := Lib.hid (HB5.out.trans (hb.mono HB5.out.size))
          have HX22 := Lib.hid (HX5.out.later hb)
          clear hb x0 x1 xf xz HB5 HX5
          obtain ⟨x0, x1, xf, xz⟩ := HX22.out.v2
          obtain ⟨tS5, htS5⟩ : ∃ n, (stopTo p l false st l.length).length = n := ⟨_, rfl⟩
          rw [htS5] at HS5 ⊢
          clear htS5
          go_wp2_with fail
          refine (C45.out _ HB22.out).mono ?_
          intro e23 w23 hh
          obtain ⟨vS6, rfl, hS6, hb⟩ := hh.good (HTL.out _)
          have HS6 := Lib.hid hS6
          obtain ⟨b6, cb6, rfl, _, _⟩ := hS6
          clear hh
          have HB23 := Lib.hid (HB22.out.trans (hb.mono HB22.out.size))
          have HX23 := Lib.hid (HX22.out.later hb)
          have HS5n := Lib.hid (HS5.out.later hb)
          clear HS5
          have HS5 := HS5n
          clear HS5n
          clear hb x0 x1 xf xz HB22 HX22
          obtain ⟨x0, x1, xf, xz⟩ := HX23.out.v2
          obtain ⟨tS6, htS6⟩ : ∃ n, (stopTo p l true st l.length).length = n := ⟨_, rfl⟩
          rw [htS6] at HS6 ⊢
          clear htS6
          go_wp2_with fail
          refine (C46.out _ HB23.out).mono ?_
          intro e24 w24 hh
          obtain ⟨vS7, rfl, hS7, hb⟩ := hh.good HRL.out
          have HS7 := Lib.hid hS7
          obtain ⟨b7, cb7, rfl, _, _⟩ := hS7
          clear hh
          have HB24 := Lib.hid (HB23.out.trans (hb.mono HB23.out.size))
          have HX24 := Lib.hid (HX23.out.later hb)
          have HS5n := Lib.hid (HS5.out.later hb)
          clear HS5
          have HS5 := HS5n
          clear HS5n
          have HS6n := Lib.hid (HS6.out.later hb)
          clear HS6
          have HS6 := HS6n
          clear HS6n
          clear hb x0 x1 xf xz HB23 HX23
          obtain ⟨x0, x1, xf, xz⟩ := HX24.out.v2
          obtain ⟨tS7, htS7⟩ : ∃ n, (resumeTo p l st l.length).length = n := ⟨_, rfl⟩
          rw [htS7] at HS7 ⊢
          clear htS7
          go_wp2_with fail
          refine (C27.out _ HB24.out).mono ?_
          rintro e25 w25 ⟨rfl, hb⟩
          have HB25 := Lib.hid (HB24.out.trans (hb.mono HB24.out.size))
          have HX25 := Lib.hid (HX24.out.later hb)
          have HS5n := Lib.hid (HS5.out.later hb)
          clear HS5
          have HS5 := HS5n
          clear HS5n
          have HS6n := Lib.hid (HS6.out.later hb)
          clear HS6
          have HS6 := HS6n
          clear HS6n
          have HS7n := Lib.hid (HS7.out.later hb)
          clear HS7
          have HS7 := HS7n
          clear HS7n
          clear hb x0 x1 xf xz HB24 HX24
          obtain ⟨x0, x1, xf, xz⟩ := HX25.out.v2
          go_wp2_with fail
          refine (C22.out _ HB25.out).mono ?_
          rintro e26 w26 ⟨rfl, hb⟩
          have HB26 := Lib.hid (HB25.out.trans (hb.mono HB25.out.size))
          have HX26 := Lib.hid (HX25.out.later hb)
          have HS5n := Lib.hid (HS5.out.later hb)
          clear HS5
          have HS5 := HS5n
          clear HS5n
          have HS6n := Lib.hid (HS6.out.later hb)
          clear HS6
          have HS6 := HS6n
          clear HS6n
          have HS7n := Lib.hid (HS7.out.later hb)
          clear HS7
          have HS7 := HS7n
          clear HS7n
          clear hb x0 x1 xf xz HB25 HX25
          obtain ⟨x0, x1, xf, xz⟩ := HX26.out.v2
          go_wp2_with fail
          refine (C47.out _ HB26.out).mono ?_
          rintro e27 w27 ⟨rfl, hb⟩
          have HB27 := Lib.hid (HB26.out.trans (hb.mono HB26.out.size))
          have HX27 := Lib.hid (HX26.out.later hb)
          have HS5n := Lib.hid (HS5.out.later hb)
          clear HS5
          have HS5 := HS5n
          clear HS5n
          have HS6n := Lib.hid (HS6.out.later hb)
          clear HS6
          have HS6 := HS6n
          clear HS6n
          have HS7n := Lib.hid (HS7.out.later hb)
          clear HS7
          have HS7 := HS7n
          clear HS7n
          clear hb x0 x1 xf xz HB26 HX26
          obtain ⟨x0, x1, xf, xz⟩ := HX27.out.v2
          go_wp2_with fail
          refine (C48.out _ HB27.out false).mono ?_
          intro e28 w28 hh
          obtain ⟨vP5, rfl, hP5, hb⟩ := hh.good (HTL.out _)
          have HP5 := Lib.hid hP5
          clear hP5
          clear hh
          have HB28 := Lib.hid (HB27.out.trans (hb.mono HB27.out.size))
          have HX28 := Lib.hid (HX27.out.later hb)
          have HS5n := Lib.hid (HS5.out.later hb)
          clear HS5
          have HS5 := HS5n
          clear HS5n
          have HS6n := Lib.hid (HS6.out.later hb)
          clear HS6
          have HS6 := HS6n
          clear HS6n
          have HS7n := Lib.hid (HS7.out.later hb)
          clear HS7
          have HS7 := HS7n
          clear HS7n
          clear hb x0 x1 xf xz HB27 HX27
          obtain ⟨x0, x1, xf, xz⟩ := HX28.out.v2
          go_wp2_with fail
          refine (states30_good _ _ _ _ HS5.out HP5.out).mono ?_
          rintro e29 w29 ⟨rfl, hb⟩
          have HB29 := Lib.hid (HB28.out.trans (hb.mono HB28.out.size))
          have HX29 := Lib.hid (HX28.out.later hb)
          have HS5n := Lib.hid (HS5.out.later hb)
          clear HS5
          have HS5 := HS5n
          clear HS5n
          have HS6n := Lib.hid (HS6.out.later hb)
          clear HS6
          have HS6 := HS6n
          clear HS6n
          have HS7n := Lib.hid (HS7.out.later hb)
          clear HS7
          have HS7 := HS7n
          clear HS7n
          have HP5n := Lib.hid (HP5.out.later hb)
          clear HP5
          have HP5 := HP5n
          clear HP5n
          clear hb x0 x1 xf xz HB28 HX28
          obtain ⟨x0, x1, xf, xz⟩ := HX29.out.v2
          go_wp2_with fail
          refine (C49.out _ HB29.out).mono ?_
          intro e30 w30 hh
          obtain ⟨vP7, rfl, hP7, hb⟩ := hh.good HRL.out
          have HP7 := Lib.hid hP7
          clear hP7
          clear hh
          have HB30 := Lib.hid (HB29.out.trans (hb.mono HB29.out.size))
          have HX30 := Lib.hid (HX29.out.later hb)
          have HS5n := Lib.hid (HS5.out.later hb)
          clear HS5
          have HS5 := HS5n
          clear HS5n
          have HS6n := Lib.hid (HS6.out.later hb)
          clear HS6
          have HS6 := HS6n
          clear HS6n
          have HS7n := Lib.hid (HS7.out.later hb)
          clear HS7
          have HS7 := HS7n
          clear HS7n
          have HP5n := Lib.hid (HP5.out.later hb)
          clear HP5
          have HP5 := HP5n
          clear HP5n
          clear hb x0 x1 xf xz HB29 HX29
          obtain ⟨x0, x1, xf, xz⟩ := HX30.out.v2
          go_wp2_with fail
          refine (states30_good _ _ _ _ HS7.out HP7.out).mono ?_
          rintro e31 w31 ⟨rfl, hb⟩
          have HB31 := Lib.hid (HB30.out.trans (hb.mono HB30.out.size))
          have HX31 := Lib.hid (HX30.out.later hb)
          have HS5n := Lib.hid (HS5.out.later hb)
          clear HS5
          have HS5 := HS5n
          clear HS5n
          have HS6n := Lib.hid (HS6.out.later hb)
          clear HS6
          have HS6 := HS6n
          clear HS6n
          have HS7n := Lib.hid (HS7.out.later hb)
          clear HS7
          have HS7 := HS7n
          clear HS7n
          have HP5n := Lib.hid (HP5.out.later hb)
          clear HP5
          have HP5 := HP5n
          clear HP5n
          have HP7n := Lib.hid (HP7.out.later hb)
          clear HP7
          have HP7 := HP7n
          clear HP7n
          clear hb x0 x1 xf xz HB30 HX30
          obtain ⟨x0, x1, xf, xz⟩ := HX31.out.v2
          go_wp2_with fail
          refine (C50.out _ HB31.out).mono ?_
          rintro e32 w32 ⟨rfl, hb⟩
          have HB32 := Lib.hid (HB31.out.trans (hb.mono HB31.out.size))
          have HX32 := Lib.hid (HX31.out.later hb)
          have HS5n := Lib.hid (HS5.out.later hb)
          clear HS5
          have HS5 := HS5n
          clear HS5n
          have HS6n := Lib.hid (HS6.out.later hb)
          clear HS6
          have HS6 := HS6n
          clear HS6n
          have HS7n := Lib.hid (HS7.out.later hb)
          clear HS7
          have HS7 := HS7n
          clear HS7n
          have HP5n := Lib.hid (HP5.out.later hb)
          clear HP5
          have HP5 := HP5n
          clear HP5n
          have HP7n := Lib.hid (HP7.out.later hb)
          clear HP7
          have HP7 := HP7n
          clear HP7n
          clear hb x0 x1 xf xz HB31 HX31
          obtain ⟨x0, x1, xf, xz⟩ := HX32.out.v2
          go_wp2_with fail
          refine (C48.out _ HB32.out true).mono ?_
          intro e33 w33 hh
          obtain ⟨vP6, rfl, hP6, hb⟩ := hh.good (HTL.out _)
          have HP6 := Lib.hid hP6
          clear hP6
          clear hh
          have HB33 := Lib.hid (HB32.out.trans (hb.mono HB32.out.size))
          have HX33 := Lib.hid (HX32.out.later hb)
          have HS5n := Lib.hid (HS5.out.later hb)
          clear HS5
          have HS5 := HS5n
          clear HS5n
          have HS6n := Lib.hid (HS6.out.later hb)
          clear HS6
          have HS6 := HS6n
          clear HS6n
          have HS7n := Lib.hid (HS7.out.later hb)
          clear HS7
          have HS7 := HS7n
          clear HS7n
          have HP5n := Lib.hid (HP5.out.later hb)
          clear HP5
          have HP5 := HP5n
          clear HP5n
          have HP7n := Lib.hid (HP7.out.later hb)
          clear HP7
          have HP7 := HP7n
          clear HP7n
          clear hb x0 x1 xf xz HB32 HX32
          obtain ⟨x0, x1, xf, xz⟩ := HX33.out.v2
          go_wp2_with fail
          refine (states30_good _ _ _ _ HS6.out HP6.out).mono ?_
          rintro e34 w34 ⟨rfl, hb⟩
          have HB34 := Lib.hid (HB33.out.trans (hb.mono HB33.out.size))
          have HX34 := Lib.hid (HX33.out.later hb)
          have HS5n := Lib.hid (HS5.out.later hb)
          clear HS5
          have HS5 := HS5n
          clear HS5n
          have HS6n := Lib.hid (HS6.out.later hb)
          clear HS6
          have HS6 := HS6n
          clear HS6n
          have HS7n := Lib.hid (HS7.out.later hb)
          clear HS7
          have HS7 := HS7n
          clear HS7n
          have HP5n := Lib.hid (HP5.out.later hb)
          clear HP5
          have HP5 := HP5n
          clear HP5n
          have HP7n := Lib.hid (HP7.out.later hb)
          clear HP7
          have HP7 := HP7n
          clear HP7n
          have HP6n := Lib.hid (HP6.out.later hb)
          clear HP6
          have HP6 := HP6n
          clear HP6n
          clear hb x0 x1 xf xz HB33 HX33
          obtain ⟨x0, x1, xf, xz⟩ := HX34.out.v2
          go_wp2_with fail
          go_ret
          exact ⟨rfl, HB34.out⟩
        | false =>
          rw [if_neg (by simp)] at hF
          subst hF
          have HF0 := Lib.hid (show (26 : Int) ≠ 0 by decide)
          go_wp2_with fail
          refine (C44.out _ HB5.out).mono ?_
          intro e35 w35 hh
          obtain ⟨vS5, rfl, hS5, hb⟩ := hh.good (HTL.out _)
          have HS5 := Lib.hid hS5
          obtain ⟨b5, cb5, rfl, _, _⟩ := hS5
          clear hh
          have HB35 := Lib.hid (HB5.out.trans (hb.mono HB5.out.size))
          have HX35 := Lib.hid (HX5.out.later hb)
          clear hb x0 x1 xf xz HB5 HX5
          obtain ⟨x0, x1, xf, xz⟩ := HX35.out.v2
          obtain ⟨tS5, htS5⟩ : ∃ n, (stopTo p l false st l.length).length = n := ⟨_, rfl⟩
          rw [htS5] at HS5 ⊢
          clear htS5
          go_wp2_with fail
          refine (C45.out _ HB35.out).mono ?_
          intro e36 w36 hh
          obtain ⟨a6, c6, rfl, hb⟩ := hh.bad HF0.out
          clear hh
          have HB36 := Lib.hid (HB35.out.trans (hb.mono HB35.out.size))
          have HX36 := Lib.hid (HX35.out.later hb)
          have HS5n := Lib.hid (HS5.out.later hb)
          clear HS5
          have HS5 := HS5n
          clear HS5n
          clear hb x0 x1 xf xz HB35 HX35
          obtain ⟨x0, x1, xf, xz⟩ := HX36.out.v2
          go_wp2_with fail
          refine (C46.out _ HB36.out).mono ?_
          intro e37 w37 hh
          obtain ⟨vS7, rfl, hS7, hb⟩ := hh.good HRL.out
          have HS7 := Lib.hid hS7
          obtain ⟨b7, cb7, rfl, _, _⟩ := hS7
          clear hh
          have HB37 := Lib.hid (HB36.out.trans (hb.mono HB36.out.size))
          have HX37 := Lib.hid (HX36.out.later hb)
          have HS5n := Lib.hid (HS5.out.later hb)
          clear HS5
          have HS5 := HS5n
          clear HS5n
          clear hb x0 x1 xf xz HB36 HX36
          obtain ⟨x0, x1, xf, xz⟩ := HX37.out.v2
          obtain ⟨tS7, htS7⟩ : ∃ n, (resumeTo p l st l.length).length = n := ⟨_, rfl⟩
          rw [htS7] at HS7 ⊢
          clear htS7
          go_wp2_with fail
          refine (C27.out _ HB37.out).mono ?_
          rintro e38 w38 ⟨rfl, hb⟩
          have HB38 := Lib.hid (HB37.out.trans (hb.mono HB37.out.size))
          have HX38 := Lib.hid (HX37.out.later hb)
          have HS5n := Lib.hid (HS5.out.later hb)
          clear HS5
          have HS5 := HS5n
          clear HS5n
          have HS7n := Lib.hid (HS7.out.later hb)
          clear HS7
          have HS7 := HS7n
          clear HS7n
          clear hb x0 x1 xf xz HB37 HX37
          obtain ⟨x0, x1, xf, xz⟩ := HX38.out.v2
          go_wp2_with fail
          refine (C22.out _ HB38.out).mono ?_
          rintro e39 w39 ⟨rfl, hb⟩
          have HB39 := Lib.hid (HB38.out.trans (hb.mono HB38.out.size))
          have HX39 := Lib.hid (HX38.out.later hb)
          have HS5n := Lib.hid (HS5.out.later hb)
          clear HS5
          have HS5 := HS5n
          clear HS5n
          have HS7n := Lib.hid (HS7.out.later hb)
          clear HS7
          have HS7 := HS7n
          clear HS7n
          clear hb x0 x1 xf xz HB38 HX38
          obtain ⟨x0, x1, xf, xz⟩ := HX39.out.v2
          go_wp2_with fail
          refine (C47.out _ HB39.out).mono ?_
          rintro e40 w40 ⟨rfl, hb⟩
          have HB40 := Lib.hid (HB39.out.trans (hb.mono HB39.out.size))
          have HX40 := Lib.hid (HX39.out.later hb)
          have HS5n := Lib.hid (HS5.out.later hb)
          clear HS5
          have HS5 := HS5n
          clear HS5n
          have HS7n := Lib.hid (HS7.out.later hb)
          clear HS7
          have HS7 := HS7n
          clear HS7n
          clear hb x0 x1 xf xz HB39 HX39
          obtain ⟨x0, x1, xf, xz⟩ := HX40.out.v2
          go_wp2_with fail
          refine (C48.out _ HB40.out false).mono ?_
          intro e41 w41 hh
          obtain ⟨vP5, rfl, hP5, hb⟩ := hh.good (HTL.out _)
          have HP5 := Lib.hid hP5
          clear hP5
          clear hh
          have HB41 := Lib.hid (HB40.out.trans (hb.mono HB40.out.size))
          have HX41 := Lib.hid (HX40.out.later hb)
          have HS5n := Lib.hid (HS5.out.later hb)
          clear HS5
          have HS5 := HS5n
          clear HS5n
          have HS7n := Lib.hid (HS7.out.later hb)
          clear HS7
          have HS7 := HS7n
          clear HS7n
          clear hb x0 x1 xf xz HB40 HX40
          obtain ⟨x0, x1, xf, xz⟩ := HX41.out.v2
          go_wp2_with fail
          refine (states30_good _ _ _ _ HS5.out HP5.out).mono ?_
          rintro e42 w42 ⟨rfl, hb⟩
          have HB42 := Lib.hid (HB41.out.trans (hb.mono HB41.out.size))
          have HX42 := Lib.hid (HX41.out.later hb)
          have HS5n := Lib.hid (HS5.out.later hb)
          clear HS5
          have HS5 := HS5n
          clear HS5n
          have HS7n := Lib.hid (HS7.out.later hb)
          clear HS7
          have HS7 := HS7n
          clear HS7n
          have HP5n := Lib.hid (HP5.out.later hb)
          clear HP5
          have HP5 := HP5n
          clear HP5n
          clear hb x0 x1 xf xz HB41 HX41
          obtain ⟨x0, x1, xf, xz⟩ := HX42.out.v2
          go_wp2_with fail
          refine (C49.out _ HB42.out).mono ?_
          intro e43 w43 hh
          obtain ⟨vP7, rfl, hP7, hb⟩ := hh.good HRL.out
          have HP7 := Lib.hid hP7
          clear hP7
          clear hh
          have HB43 := Lib.hid (HB42.out.trans (hb.mono HB42.out.size))
          have HX43 := Lib.hid (HX42.out.later hb)
          have HS5n := Lib.hid (HS5.out.later hb)
          clear HS5
          have HS5 := HS5n
          clear HS5n
          have HS7n := Lib.hid (HS7.out.later hb)
          clear HS7
          have HS7 := HS7n
          clear HS7n
          have HP5n := Lib.hid (HP5.out.later hb)
          clear HP5
          have HP5 := HP5n
          clear HP5n
          clear hb x0 x1 xf xz HB42 HX42
          obtain ⟨x0, x1, xf, xz⟩ := HX43.out.v2
          go_wp2_with fail
          refine (states30_good _ _ _ _ HS7.out HP7.out).mono ?_
          rintro e44 w44 ⟨rfl, hb⟩
          have HB44 := Lib.hid (HB43.out.trans (hb.mono HB43.out.size))
          have HX44 := Lib.hid (HX43.out.later hb)
          have HS5n := Lib.hid (HS5.out.later hb)
          clear HS5
          have HS5 := HS5n
          clear HS5n
          have HS7n := Lib.hid (HS7.out.later hb)
          clear HS7
          have HS7 := HS7n
          clear HS7n
          have HP5n := Lib.hid (HP5.out.later hb)
          clear HP5
          have HP5 := HP5n
          clear HP5n
          have HP7n := Lib.hid (HP7.out.later hb)
          clear HP7
          have HP7 := HP7n
          clear HP7n
          clear hb x0 x1 xf xz HB43 HX43
          obtain ⟨x0, x1, xf, xz⟩ := HX44.out.v2
          go_wp2_with fail
          refine (C50.out _ HB44.out).mono ?_
          rintro e45 w45 ⟨rfl, hb⟩
          have HB45 := Lib.hid (HB44.out.trans (hb.mono HB44.out.size))
          have HX45 := Lib.hid (HX44.out.later hb)
          have HS5n := Lib.hid (HS5.out.later hb)
          clear HS5
          have HS5 := HS5n
          clear HS5n
          have HS7n := Lib.hid (HS7.out.later hb)
          clear HS7
          have HS7 := HS7n
          clear HS7n
          have HP5n := Lib.hid (HP5.out.later hb)
          clear HP5
          have HP5 := HP5n
          clear HP5n
          have HP7n := Lib.hid (HP7.out.later hb)
          clear HP7
          have HP7 := HP7n
          clear HP7n
          clear hb x0 x1 xf xz HB44 HX44
          obtain ⟨x0, x1, xf, xz⟩ := HX45.out.v2
          go_wp2_with fail
          refine (states30_bad a6 c6 _ _ _ HF0.out).mono ?_
          rintro e46 w46 ⟨rfl, hb⟩
          have HB46 := Lib.hid (HB45.out.trans (hb.mono HB45.out.size))
          have HX46 := Lib.hid (HX45.out.later hb)
          have HS5n := Lib.hid (HS5.out.later hb)
          clear HS5
          have HS5 := HS5n
          clear HS5n
          have HS7n := Lib.hid (HS7.out.later hb)
          clear HS7
          have HS7 := HS7n
          clear HS7n
          have HP5n := Lib.hid (HP5.out.later hb)
          clear HP5
          have HP5 := HP5n
          clear HP5n
          have HP7n := Lib.hid (HP7.out.later hb)
          clear HP7
          have HP7 := HP7n
          clear HP7n
          clear hb x0 x1 xf xz HB45 HX45
          obtain ⟨x0, x1, xf, xz⟩ := HX46.out.v2
          go_wp2_with fail
          go_ret
          exact ⟨rfl, HB46.out⟩
      | false =>
        rw [Bool.false_and, if_neg (by simp)] at hF
        rw [if_neg (by simp)] at hE
        subst hE hF
        have HE0 := Lib.hid (show (26 : Int) ≠ 0 by decide)
        clear C48 C49 C50
        go_wp2_with fail
        refine (C44.out _ HB5.out).mono ?_
        intro e47 w47 hh
        obtain ⟨a5, c5, rfl, hb⟩ := hh.bad HE0.out
        clear hh
        have HB47 := Lib.hid (HB5.out.trans (hb.mono HB5.out.size))
        have HX47 := Lib.hid (HX5.out.later hb)
        clear hb x0 x1 xf xz HB5 HX5
        obtain ⟨x0, x1, xf, xz⟩ := HX47.out.v2
        go_wp2_with fail
        refine (C45.out _ HB47.out).mono ?_
        intro e48 w48 hh
        obtain ⟨a6, c6, rfl, hb⟩ := hh.bad HE0.out
        clear hh
        have HB48 := Lib.hid (HB47.out.trans (hb.mono HB47.out.size))
        have HX48 := Lib.hid (HX47.out.later hb)
        clear hb x0 x1 xf xz HB47 HX47
        obtain ⟨x0, x1, xf, xz⟩ := HX48.out.v2
        go_wp2_with fail
        refine (C46.out _ HB48.out).mono ?_
        intro e49 w49 hh
        obtain ⟨a7, c7, rfl, hb⟩ := hh.bad HE0.out
        clear hh
        have HB49 := Lib.hid (HB48.out.trans (hb.mono HB48.out.size))
        have HX49 := Lib.hid (HX48.out.later hb)
        clear hb x0 x1 xf xz HB48 HX48
        obtain ⟨x0, x1, xf, xz⟩ := HX49.out.v2
        go_wp2_with fail
        refine (C27.out _ HB49.out).mono ?_
        rintro e50 w50 ⟨rfl, hb⟩
        have HB50 := Lib.hid (HB49.out.trans (hb.mono HB49.out.size))
        have HX50 := Lib.hid (HX49.out.later hb)
        clear hb x0 x1 xf xz HB49 HX49
        obtain ⟨x0, x1, xf, xz⟩ := HX50.out.v2
        go_wp2_with fail
        refine (C22.out _ HB50.out).mono ?_
        rintro e51 w51 ⟨rfl, hb⟩
        have HB51 := Lib.hid (HB50.out.trans (hb.mono HB50.out.size))
        have HX51 := Lib.hid (HX50.out.later hb)
        clear hb x0 x1 xf xz HB50 HX50
        obtain ⟨x0, x1, xf, xz⟩ := HX51.out.v2
        go_wp2_with fail
        refine (C47.out _ HB51.out).mono ?_
        rintro e52 w52 ⟨rfl, hb⟩
        have HB52 := Lib.hid (HB51.out.trans (hb.mono HB51.out.size))
        have HX52 := Lib.hid (HX51.out.later hb)
        clear hb x0 x1 xf xz HB51 HX51
        obtain ⟨x0, x1, xf, xz⟩ := HX52.out.v2
        go_wp2_with fail
        refine (states30_bad a5 c5 _ _ _ HE0.out).mono ?_
        rintro e53 w53 ⟨rfl, hb⟩
        have HB53 := Lib.hid (HB52.out.trans (hb.mono HB52.out.size))
        have HX53 := Lib.hid (HX52.out.later hb)
        clear hb x0 x1 xf xz HB52 HX52
        obtain ⟨x0, x1, xf, xz⟩ := HX53.out.v2
        go_wp2_with fail
        refine (states30_bad a6 c6 _ _ _ HE0.out).mono ?_
        rintro e54 w54 ⟨rfl, hb⟩
        have HB54 := Lib.hid (HB53.out.trans (hb.mono HB53.out.size))
        have HX54 := Lib.hid (HX53.out.later hb)
        clear hb x0 x1 xf xz HB53 HX53
        obtain ⟨x0, x1, xf, xz⟩ := HX54.out.v2
        go_wp2_with fail
        refine (states30_bad a7 c7 _ _ _ HE0.out).mono ?_
        rintro e55 w55 ⟨rfl, hb⟩
        have HB55 := Lib.hid (HB54.out.trans (hb.mono HB54.out.size))
        have HX55 := Lib.hid (HX54.out.later hb)
        clear hb x0 x1 xf xz HB54 HX54
        obtain ⟨x0, x1, xf, xz⟩ := HX55.out.v2
        go_wp2_with fail
        go_ret
        exact ⟨rfl, HB55.out⟩
end Go.Proofs.YtahpdkkpnkhnhaaGreatDoor
