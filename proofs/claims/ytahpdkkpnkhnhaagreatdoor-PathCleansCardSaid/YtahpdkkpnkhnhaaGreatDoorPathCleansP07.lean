/- Lemmas on the way to the law PathCleans (part 7): Ob -/
import Derived.Test.YtahpdkkpnkhnhaaGreatDoorPathCleansP06
import Derived.Test.YtahpdkkpnkhnhaaGreatDoorPathCleansP03
set_option linter.unusedVariables false
set_option linter.unusedSimpArgs false

/- Walks: the law PathCleans. -/
namespace Go.Proofs.YtahpdkkpnkhnhaaGreatDoor
open Go Go.Proofs Go.RowKit Go.Shelf
theorem StE.any {w : World} {E : Int} {L : List Sx} {e : Ending} {w' : World} (h : StE w E L e w') (hE : E = 0) (hl : L.length ≤ 1000000000) : ∃ v, e = .returned (.tuple #[v, .int .i64 0]) ∧ Sl Sx.enc 3 w' w'.heap.size v L ∧ Below w.heap.size w w' := by
  subst hE; exact h.good hl
set_option maxRecDepth 100000 in
set_option maxHeartbeats 4000000 in
theorem cleans11 (w : World) (a1 a2 a3 : Option Addr) (n1 n2 n3 c1 c2 c3 : Nat) (u : Value) (gn : ByteArray) (p : Pl) (st : List Sx) (l : List Int) (hwd : WdR w) (hn1 : n1 ≤ 9223372036854775807) (hn2 : n2 ≤ 9223372036854775807) (hn3 : n3 ≤ 9223372036854775807)
    (hv : n1 ≤ 70 → n2 ≤ 260 → PlR w w.heap.size (.slice a1 n1 c1) (.slice a2 n2 c2) p ∧ p.ms.length = n1 ∧ p.arcs.length = n2 ∧ ∀ m ∈ p.ms, m.kind.size ≤ 9223372036854775807)
    (hl : n3 ≤ 80 → Sl encI 1 w w.heap.size (.slice a3 n3 c3) l) (hu : SlL Sx.enc 3 w w.heap.size u st) (hs : SzR st) (hgn : gn.size ≤ 9223372036854775807) :
    Calls Tryz.prog 11 #[.agg #[.slice a1 n1 c1, .slice a2 n2 c2], u, .agg #[.slice a3 n3 c3, .string gn]] w (Ret (.bool true) w) := by
  obtain ⟨g, hg⟩ : ∃ g, heavyB p n1 n2 [.slice a3 n3 c3] = g := ⟨_, rfl⟩
  have HH := Lib.hid (fun (w1 : World) (hb : Below w.heap.size w w1) (u : Option Addr) (hu : Sl Val1 1 w1 w1.heap.size (.slice u 1 1) [.slice a3 n3 c3]) => heavy17 w1 a1 a2 u n1 n2 1 c1 c2 1 p [.slice a3 n3 c3] hn1 hn2 (fun x y => ⟨(hv x y).1.later hb, (hv x y).2⟩) hu (by
    intro v hv
    rw [List.mem_singleton] at hv
    subst hv
    exact ⟨_, _, _, rfl, hn3⟩))
  rw [hg] at HH
  have HLG := Lib.hid (fun (w1 : World) (hb : Below w.heap.size w w1) => long25 u st w1 (hu.later hb) hs)
  obtain ⟨lb, hlb⟩ : ∃ g, longB st = g := ⟨_, rfl⟩
  rw [hlb] at HLG
  have HG := Lib.hid hg
  have HLB := Lib.hid hlb
  have HWD := Lib.hid hwd
  have HV := Lib.hid hv
  have HLL := Lib.hid hl
  have HU := Lib.hid hu
  have HSZ := Lib.hid hs
  have HGN := Lib.hid hgn
  obtain ⟨a4, c4, rfl, _, _⟩ := id hu
  obtain ⟨sn, hsn⟩ : ∃ n, st.length = n := ⟨_, rfl⟩
  rw [hsn] at HLG HU ⊢
  have HSN := Lib.hid hsn
  clear hwd hv hl hg hu hs hlb hsn
  have HB := Lib.hid (((Below.refl w.heap.size w).alloc (Nat.le_refl _) (.cells #[.slice a1 n1 c1, .slice a2 n2 c2] 25)).alloc (by simp) (.cells #[.slice a3 n3 c3, .string gn] 41))
  have HX := Lib.hid ((Box.new w #[.slice a1 n1 c1, .slice a2 n2 c2] 25).alloc (.cells #[.slice a3 n3 c3, .string gn] 41))
  have HY := Lib.hid (Box.newAt (w.alloc (.cells #[.slice a1 n1 c1, .slice a2 n2 c2] 25)) #[.slice a3 n3 c3, .string gn] 41 (by simp : _ = w.heap.size + 1))
  go_enter Tryz.func11, Tryz.ntmps11
  go_wp2_with fail
  refine (awake16 _ (HWD.out.later HB.out)).mono ?_
  rintro e2 w2 ⟨rfl, hb⟩
  have HB2 := Lib.hid (HB.out.trans (hb.mono HB.out.size))
  have HX2 := Lib.hid (HX.out.later hb)
  have HY2 := Lib.hid (HY.out.later hb)
  clear hb
  obtain ⟨x0, x1, xf, xz⟩ := HX2.out.v2
  obtain ⟨y0, y1, yf, yz⟩ := HY2.out.v2
  go_wp2_with fail
  have hb : Below w2.heap.size w2 (w2.alloc (.cells #[.slice a3 n3 c3] 26)) := (Below.refl _ _).alloc (Nat.le_refl _) _
  have HBa := Lib.hid (HB2.out.trans (hb.mono HB2.out.size))
  have HXa := Lib.hid (HX2.out.later hb)
  have HYa := Lib.hid (HY2.out.later hb)
  clear hb x0 x1 xf xz y0 y1 yf yz
  refine (HH.out _ HBa.out _ (Sl.one rfl)).mono ?_
  rintro e3 w3 ⟨rfl, hb⟩
  have HB3 := Lib.hid (HBa.out.trans (hb.mono HBa.out.size))
  have HX3 := Lib.hid (HXa.out.later hb)
  have HY3 := Lib.hid (HYa.out.later hb)
  clear hb HBa HXa HYa
  obtain ⟨x0, x1, xf, xz⟩ := HX3.out.v2
  obtain ⟨y0, y1, yf, yz⟩ := HY3.out.v2
  cases g with
  | true =>
    go_wp2_with fail
    refine (awake16 _ (HWD.out.later HB3.out)).mono ?_
    rintro e4 w4 ⟨rfl, hb⟩
    have HB4 := Lib.hid (HB3.out.trans (hb.mono HB3.out.size))
    have HX4 := Lib.hid (HX3.out.later hb)
    have HY4 := Lib.hid (HY3.out.later hb)
    clear hb x0 x1 xf xz y0 y1 yf yz HB3 HX3 HY3
    obtain ⟨x0, x1, xf, xz⟩ := HX4.out.v2
    obtain ⟨y0, y1, yf, yz⟩ := HY4.out.v2
    go_wp2_with fail
    go_ret
    exact ⟨rfl, HB4.out⟩
  | false =>
    go_wp2_with fail
    refine (HLG.out _ HB3.out).mono ?_
    rintro e5 w5 ⟨rfl, hb⟩
    have HB5 := Lib.hid (HB3.out.trans (hb.mono HB3.out.size))
    have HX5 := Lib.hid (HX3.out.later hb)
    have HY5 := Lib.hid (HY3.out.later hb)
    clear hb x0 x1 xf xz y0 y1 yf yz HB3 HX3 HY3
    obtain ⟨x0, x1, xf, xz⟩ := HX5.out.v2
    obtain ⟨y0, y1, yf, yz⟩ := HY5.out.v2
    cases lb with
    | true =>
      go_wp2_with fail
      refine (awake16 _ (HWD.out.later HB5.out)).mono ?_
      rintro e6 w6 ⟨rfl, hb⟩
      have HB6 := Lib.hid (HB5.out.trans (hb.mono HB5.out.size))
      have HX6 := Lib.hid (HX5.out.later hb)
      have HY6 := Lib.hid (HY5.out.later hb)
      clear hb x0 x1 xf xz y0 y1 yf yz HB5 HX5 HY5
      obtain ⟨x0, x1, xf, xz⟩ := HX6.out.v2
      obtain ⟨y0, y1, yf, yz⟩ := HY6.out.v2
      go_wp2_with fail
      go_ret
      exact ⟨rfl, HB6.out⟩
    | false =>
      by_cases h40 : 40 < gn.size
      · have d4 : decide ((40 : Int) < (gn.size : Int)) = true := decide_eq_true (by omega)
        clear h40
        go_wp2_with fail
        refine (awake16 _ (HWD.out.later HB5.out)).mono ?_
        rintro e7 w7 ⟨rfl, hb⟩
        have HB7 := Lib.hid (HB5.out.trans (hb.mono HB5.out.size))
        have HX7 := Lib.hid (HX5.out.later hb)
        have HY7 := Lib.hid (HY5.out.later hb)
        clear hb x0 x1 xf xz y0 y1 yf yz HB5 HX5 HY5
        obtain ⟨x0, x1, xf, xz⟩ := HX7.out.v2
        obtain ⟨y0, y1, yf, yz⟩ := HY7.out.v2
        go_wp2_with fail
        go_ret
        exact ⟨rfl, HB7.out⟩
      have d4 : decide ((40 : Int) < (gn.size : Int)) = false := decide_eq_false (by omega)
      clear h40
      obtain ⟨q1, q2, q3, _, _⟩ := heavyB_no HG.out
      obtain ⟨hpl, hm1, hm2, _⟩ := HV.out q2 q3
      have hsl := HLL.out (q1 _ (List.mem_singleton.2 rfl))
      obtain ⟨q4, _⟩ := longB_no HLB.out
      have hln : l.length = n3 := by obtain ⟨_, _, e, _⟩ := id hsl; injection e with e1 e2 e3; exact e2.symm
      have hl80 : n3 ≤ 80 := q1 _ (List.mem_singleton.2 rfl)
      have hst := HU.out
      rw [← HSN.out] at hst
      have hst := hst.short (by omega)
      have hsn80 : sn ≤ 80 := by rw [← HSN.out]; exact q4
      have C67 := Lib.hid (fun (w1 : World) (hb : Below w.heap.size w w1) => few67 w1 _ _ p 9 (hpl.later hb))
      rw [HSN.out] at hst
      have C27 := Lib.hid (fun (w1 : World) (hb : Below w.heap.size w w1) => checkState27 w1 _ _ _ p st (hpl.later hb) (hst.later hb) HSZ.out)
      have C22 := Lib.hid (fun (w1 : World) (hb : Below w.heap.size w w1) => checkPath22 w1 _ _ _ p l (hpl.later hb) (hsl.later hb))
      have C26 := Lib.hid (fun (w1 : World) (hb : Below w.heap.size w w1) => fun v T (hs : Sl Sx.enc 3 w1 w1.heap.size v T) hz => start26 w1 _ _ v _ gn p T l (HWD.out.later hb) (hpl.later hb) hs hz (hsl.later hb) HGN.out)
      have C44 := Lib.hid (fun (w1 : World) (hb : Below w.heap.size w w1) => fun v T (hs : Sl Sx.enc 3 w1 w1.heap.size v T) hz => stop44 w1 _ _ v _ p T l (HWD.out.later hb) (hpl.later hb) hs hz (hsl.later hb))
      have C45 := Lib.hid (fun (w1 : World) (hb : Below w.heap.size w w1) => fun v T (hs : Sl Sx.enc 3 w1 w1.heap.size v T) hz => clean45 w1 _ _ v _ p T l (HWD.out.later hb) (hpl.later hb) hs hz (hsl.later hb))
      have C46 := Lib.hid (fun (w1 : World) (hb : Below w.heap.size w w1) => fun v T (hs : Sl Sx.enc 3 w1 w1.heap.size v T) hz => resume46 w1 _ _ v _ p T l (HWD.out.later hb) (hpl.later hb) hs hz (hsl.later hb))
      have C39 := Lib.hid (fun (w1 : World) (hb : Below w.heap.size w w1) => fun v T mc (hs : Sl Sx.enc 3 w1 w1.heap.size v T) hz => fault39 w1 _ _ v p T mc (HWD.out.later hb) (hpl.later hb) hs hz)
      have C24 := Lib.hid (fun (w1 : World) (hb : Below w.heap.size w w1) => fun x => in24 _ l x w1 (hsl.later hb))
      have HPL := Lib.hid hpl
      have HSL := Lib.hid hsl
      have HST := Lib.hid hst
      have HM1 := Lib.hid hm1
      have HLN := Lib.hid hln
      clear hpl hsl hst hm1 hm2 hln q1 q2 q3 q4 HV HLL HU HG HLB
      obtain ⟨fb, hfb⟩ : ∃ b, fewB p 9 = b := ⟨_, rfl⟩
      rw [hfb] at C67
      clear hfb
      go_wp2_with fail
      refine (C67.out _ HB5.out).mono ?_
      rintro e8 w8 ⟨rfl, hb⟩
      have HB8 := Lib.hid (HB5.out.trans (hb.mono HB5.out.size))
      have HX8 := Lib.hid (HX5.out.later hb)
      have HY8 := Lib.hid (HY5.out.later hb)
      clear hb x0 x1 xf xz y0 y1 yf yz HB5 HX5 HY5
      obtain ⟨x0, x1, xf, xz⟩ := HX8.out.v2
      obtain ⟨y0, y1, yf, yz⟩ := HY8.out.v2
      cases fb with
      | true =>
        obtain ⟨cs, hcs⟩ : ∃ c, ckState p st = c := ⟨_, rfl⟩
        have HCS := Lib.hid hcs
        rw [hcs] at C27
        clear hcs
        obtain ⟨cp, hcp⟩ : ∃ c, pathE p l = c := ⟨_, rfl⟩
        have HCP := Lib.hid hcp
        rw [hcp] at C22
        clear hcp
        go_wp2_with fail
        refine (C27.out _ HB8.out).mono ?_
        rintro e9 w9 ⟨rfl, hb⟩
        have HB9 := Lib.hid (HB8.out.trans (hb.mono HB8.out.size))
        have HX9 := Lib.hid (HX8.out.later hb)
        have HY9 := Lib.hid (HY8.out.later hb)
        clear hb x0 x1 xf xz y0 y1 yf yz HB8 HX8 HY8
        obtain ⟨x0, x1, xf, xz⟩ := HX9.out.v2
        obtain ⟨y0, y1, yf, yz⟩ := HY9.out.v2
        by_cases h1 : cs = 0
        rotate_left
        · have k1 : (cs != 0) = true := by simpa using h1
          clear h1
          go_wp2_with fail
          refine (awake16 _ (HWD.out.later HB9.out)).mono ?_
          rintro e10 w10 ⟨rfl, hb⟩
          have HB10 := Lib.hid (HB9.out.trans (hb.mono HB9.out.size))
          have HX10 := Lib.hid (HX9.out.later hb)
          have HY10 := Lib.hid (HY9.out.later hb)
          clear hb x0 x1 xf xz y0 y1 yf yz HB9 HX9 HY9
          obtain ⟨x0, x1, xf, xz⟩ := HX10.out.v2
          obtain ⟨y0, y1, yf, yz⟩ := HY10.out.v2
          go_wp2_with fail
          go_ret
          exact ⟨rfl, HB10.out⟩
        subst h1
        go_wp2_with fail
        refine (C22.out _ HB9.out).mono ?_
        rintro e11 w11 ⟨rfl, hb⟩
        have HB11 := Lib.hid (HB9.out.trans (hb.mono HB9.out.size))
        have HX11 := Lib.hid (HX9.out.later hb)
        have HY11 := Lib.hid (HY9.out.later hb)
        clear hb x0 x1 xf xz y0 y1 yf yz HB9 HX9 HY9
        obtain ⟨x0, x1, xf, xz⟩ := HX11.out.v2
        obtain ⟨y0, y1, yf, yz⟩ := HY11.out.v2
        by_cases h1 : cp = 0
        rotate_left
        · have k1 : (cp != 0) = true := by simpa using h1
          clear h1
          go_wp2_with fail
          refine (awake16 _ (HWD.out.later HB11.out)).mono ?_
          rintro e12 w12 ⟨rfl, hb⟩
          have HB12 := Lib.hid (HB11.out.trans (hb.mono HB11.out.size))
          have HX12 := Lib.hid (HX11.out.later hb)
          have HY12 := Lib.hid (HY11.out.later hb)
          clear hb x0 x1 xf xz y0 y1 yf yz HB11 HX11 HY11
          obtain ⟨x0, x1, xf, xz⟩ := HX12.out.v2
          obtain ⟨y0, y1, yf, yz⟩ := HY12.out.v2
          go_wp2_with fail
          go_ret
          exact ⟨rfl, HB12.out⟩
        subst h1
        obtain ⟨E, hE⟩ : ∃ c, startE p st l gn = c := ⟨_, rfl⟩
        have HE := Lib.hid hE
        clear hE
        by_cases h1 : E = 0
        rotate_left
        · have HE0 := Lib.hid h1
          have k0 : (E == 0) = false := beq_eq_false_iff_ne.2 h1
          have k1 : (E != 0) = true := by simpa using h1
          clear h1
          have K26 := Lib.hid (fun (w1 : World) (hb : Below w.heap.size w w1) => C26.out w1 hb _ st (HST.out.later hb) HSZ.out)
          rw [HE.out] at K26
          go_wp2_with fail
          refine (K26.out _ HB11.out).mono ?_
          intro e13 w13 hh
          obtain ⟨a5, c5, rfl, hb⟩ := hh.bad HE0.out
          clear hh
          have HB13 := Lib.hid (HB11.out.trans (hb.mono HB11.out.size))
          have HX13 := Lib.hid (HX11.out.later hb)
          have HY13 := Lib.hid (HY11.out.later hb)
          clear hb x0 x1 xf xz y0 y1 yf yz HB11 HX11 HY11
          obtain ⟨x0, x1, xf, xz⟩ := HX13.out.v2
          obtain ⟨y0, y1, yf, yz⟩ := HY13.out.v2
          go_wp2_with fail
          go_ret
          exact ⟨rfl, HB13.out⟩
        subst h1
        have K26 := Lib.hid (fun (w1 : World) (hb : Below w.heap.size w w1) => C26.out w1 hb _ st (HST.out.later hb) HSZ.out)
        rw [HE.out] at K26
        have hcl := cln_of HCS.out HCP.out HE.out HSZ.out HGN.out
        have hpl2 := (ckState_ok HCS.out).2.1
        rw [HSN.out] at hpl2
        have HPL2 := Lib.hid hpl2
        clear hpl2
        have hpa := PaV.of HCP.out
        have HPA := Lib.hid hpa
        have h2 := hpa.two
        rw [HLN.out] at h2
        clear hpa
        obtain ⟨S, hS⟩ : ∃ T, startTo p l gn st l.length = T := ⟨_, rfl⟩
        rw [hS] at hcl
        have HS := Lib.hid hS
        rw [hS] at K26
        clear hS
        obtain ⟨D, hD⟩ : ∃ T, stopTo p l false S l.length = T := ⟨_, rfl⟩
        rw [hD] at hcl
        have HD := Lib.hid hD
        clear hD
        obtain ⟨C, hC⟩ : ∃ T, stopTo p l true S l.length = T := ⟨_, rfl⟩
        rw [hC] at hcl
        have HC := Lib.hid hC
        clear hC
        obtain ⟨A, hA⟩ : ∃ T, startTo p l gn D l.length = T := ⟨_, rfl⟩
        rw [hA] at hcl
        have HA := Lib.hid hA
        clear hA
        have HCL := Lib.hid hcl
        clear hcl
        have HLS := Lib.hid (show S.length = sn from HCL.out.lenS.trans HSN.out)
        have HLD := Lib.hid (show D.length = sn from HCL.out.lenD.trans HSN.out)
        have HLC := Lib.hid (show C.length = sn from HCL.out.lenC.trans HSN.out)
        have HLA := Lib.hid (show A.length = sn from HCL.out.lenA.trans HSN.out)
        go_wp2_with fail
        refine (K26.out _ HB11.out).mono ?_
        intro e14 w14 hh
        obtain ⟨v5, rfl, hs5, hb⟩ := hh.any rfl (by rw [HLS.out]; omega)
        have HS5 := Lib.hid hs5
        obtain ⟨a5, c5, rfl, _, _⟩ := hs5
        rw [HLS.out] at HS5 ⊢
        clear hh
        have HB14 := Lib.hid (HB11.out.trans (hb.mono HB11.out.size))
        have HX14 := Lib.hid (HX11.out.later hb)
        have HY14 := Lib.hid (HY11.out.later hb)
        clear hb x0 x1 xf xz y0 y1 yf yz HB11 HX11 HY11
        obtain ⟨x0, x1, xf, xz⟩ := HX14.out.v2
        obtain ⟨y0, y1, yf, yz⟩ := HY14.out.v2
        clear K26
        have K45 := Lib.hid (fun (w1 : World) (hb : Below w.heap.size w w1) (v : Value) (hs : Sl Sx.enc 3 w1 w1.heap.size v S) => C45.out w1 hb v S hs HCL.out.szS)
        rw [HCL.out.cE, HC.out] at K45
        have K44 := Lib.hid (fun (w1 : World) (hb : Below w.heap.size w w1) (v : Value) (hs : Sl Sx.enc 3 w1 w1.heap.size v S) => C44.out w1 hb v S hs HCL.out.szS)
        rw [HCL.out.sE, HD.out] at K44
        have K26 := Lib.hid (fun (w1 : World) (hb : Below w.heap.size w w1) (v : Value) (hs : Sl Sx.enc 3 w1 w1.heap.size v D) => C26.out w1 hb v D hs HCL.out.szD)
        rw [HCL.out.aE, HA.out] at K26
        go_wp2_with fail
        refine (K45.out _ HB14.out _ HS5.out).mono ?_
        intro e15 w15 hh
        obtain ⟨v6, rfl, hs6, hb⟩ := hh.any rfl (by rw [HLC.out]; omega)
        have HS6 := Lib.hid hs6
        obtain ⟨a6, c6, rfl, _, _⟩ := hs6
        rw [HLC.out] at HS6 ⊢
        clear hh
        have HB15 := Lib.hid (HB14.out.trans (hb.mono HB14.out.size))
        have HX15 := Lib.hid (HX14.out.later hb)
        have HY15 := Lib.hid (HY14.out.later hb)
        have HS5n := Lib.hid (HS5.out.later hb)
        clear HS5
        have HS5 := HS5n
        clear HS5n
        clear hb x0 x1 xf xz y0 y1 yf yz HB14 HX14 HY14
        obtain ⟨x0, x1, xf, xz⟩ := HX15.out.v2
        obtain ⟨y0, y1, yf, yz⟩ := HY15.out.v2
        go_wp2_with fail
        refine (K44.out _ HB15.out _ HS5.out).mono ?_
        intro e16 w16 hh
        obtain ⟨v7, rfl, hs7, hb⟩ := hh.any rfl (by rw [HLD.out]; omega)
        have HS7 := Lib.hid hs7
        obtain ⟨a7, c7, rfl, _, _⟩ := hs7
        rw [HLD.out] at HS7 ⊢
        clear hh
        have HB16 := Lib.hid (HB15.out.trans (hb.mono HB15.out.size))
        have HX16 := Lib.hid (HX15.out.later hb)
        have HY16 := Lib.hid (HY15.out.later hb)
        have HS5n := Lib.hid (HS5.out.later hb)
        clear HS5
        have HS5 := HS5n
        clear HS5n
        have HS6n := Lib.hid (HS6.out.later hb)
        clear HS6
        have HS6 := HS6n
        clear HS6n
        clear hb x0 x1 xf xz y0 y1 yf yz HB15 HX15 HY15
        obtain ⟨x0, x1, xf, xz⟩ := HX16.out.v2
        obtain ⟨y0, y1, yf, yz⟩ := HY16.out.v2
        go_wp2_with fail
        refine (K26.out _ HB16.out _ HS7.out).mono ?_
        intro e17 w17 hh
        obtain ⟨v8, rfl, hs8, hb⟩ := hh.any rfl (by rw [HLA.out]; omega)
        have HS8 := Lib.hid hs8
        obtain ⟨a8, c8, rfl, _, _⟩ := hs8
        rw [HLA.out] at HS8 ⊢
        clear hh
        have HB17 := Lib.hid (HB16.out.trans (hb.mono HB16.out.size))
        have HX17 := Lib.hid (HX16.out.later hb)
        have HY17 := Lib.hid (HY16.out.later hb)
        have HS5n := Lib.hid (HS5.out.later hb)
        clear HS5
        have HS5 := HS5n
        clear HS5n
        have HS6n := Lib.hid (HS6.out.later hb)
        clear HS6
        have HS6 := HS6n
        clear HS6n
        have HS7n := Lib.hid (HS7.out.later hb)
        clear HS7
        have HS7 := HS7n
        clear HS7n
        clear hb x0 x1 xf xz y0 y1 yf yz HB16 HX16 HY16
        obtain ⟨x0, x1, xf, xz⟩ := HX17.out.v2
        obtain ⟨y0, y1, yf, yz⟩ := HY17.out.v2
        have K69 := Lib.hid (fun (w1 : World) (v v' : Value) (h1 : Sl Sx.enc 3 w1 w1.heap.size v A) (h2 : Sl Sx.enc 3 w1 w1.heap.size v' S) => same69 v v' A S w1 h1 h2)
        rw [HCL.out.same] at K69
        go_wp2_with fail
        refine (K69.out _ _ _ HS8.out HS5.out).mono ?_
        rintro e18 w18 ⟨rfl, hb⟩
        have HB18 := Lib.hid (HB17.out.trans (hb.mono HB17.out.size))
        have HX18 := Lib.hid (HX17.out.later hb)
        have HY18 := Lib.hid (HY17.out.later hb)
        have HS5n := Lib.hid (HS5.out.later hb)
        clear HS5
        have HS5 := HS5n
        clear HS5n
        have HS6n := Lib.hid (HS6.out.later hb)
        clear HS6
        have HS6 := HS6n
        clear HS6n
        have HS7n := Lib.hid (HS7.out.later hb)
        clear HS7
        have HS7 := HS7n
        clear HS7n
        have HS8n := Lib.hid (HS8.out.later hb)
        clear HS8
        have HS8 := HS8n
        clear HS8n
        clear hb x0 x1 xf xz y0 y1 yf yz HB17 HX17 HY17
        obtain ⟨x0, x1, xf, xz⟩ := HX18.out.v2
        obtain ⟨y0, y1, yf, yz⟩ := HY18.out.v2
        clear HS7 HS8 K69 K45 K44 K26 C44 C26
        have HSLw := Lib.hid (HSL.out.later HB18.out)
        have HPLw := Lib.hid (HPL.out.later HB18.out)
        have HSTw := Lib.hid (HST.out.later HB18.out)
        clear HSL HPL HST
        obtain ⟨al, cl, e5, hl5, hA5⟩ := id HSLw.out
        rw [HLN.out] at e5
        cases e5
        obtain ⟨b5, o5, rfl, hbb5, hc5⟩ := hA5 (by rw [HLN.out]; omega)
        have l1 := (hc5 (n3 - 1) (by rw [HLN.out]; omega)).c1
        rw [← getD_geI] at l1
        rw [Nat.mul_one] at l1
        have k5 : IntKind.i64.wrap ((n3 : Int) - 1) = ((n3 - 1 : Nat) : Int) := by rw [IntWalk.i64_in _ (by omega)]; omega
        have k6 : ((n3 - 1 : Nat) : Int) < (n3 : Int) := by omega
        have HC5 := Lib.hid hc5
        clear hc5 hA5 hl5
        have HAT := Lib.hid HCL.out.at_
        rw [HLN.out] at HAT
        obtain ⟨la, hla⟩ : ∃ x, l.getD (n3 - 1) 0 = x := ⟨_, rfl⟩
        rw [hla] at l1 HAT
        clear hla
        obtain ⟨n6, hn6⟩ : ∃ n, n3 - 1 = n := ⟨_, rfl⟩
        rw [hn6] at l1 k5 k6
        clear hn6
        obtain ⟨hpm, _⟩ := HPLw.out
        obtain ⟨a1q, c1q, e1, hm1l, hmA⟩ := hpm
        obtain ⟨rfl, _, rfl⟩ : a1q = a1 ∧ p.ms.length = n1 ∧ c1q = c1 := by injection e1 with e1 e2 e3; exact ⟨e1.symm, e2.symm, e3.symm⟩
        have HMA := Lib.hid hmA
        clear hmA hm1l e1
        go_wp2_with fail
        clear l1 k5 k6
        go_loopw [16] (fun i wr => ∃ k : Nat, k ≤ sn ∧ i = .int .i64 k ∧ Below w18.heap.size w18 wr) (fun i _ => sn - (intOf i).toNat)
        case atStart => exact ⟨0, by omega, rfl, Below.refl _ _⟩
        case round =>
          obtain ⟨k, hk, rfl, hbe⟩ := hrel
          have HBE := Lib.hid (HB18.out.trans (hbe.mono HB18.out.size))
          have HBK := Lib.hid hbe
          have HXE := Lib.hid (HX18.out.later hbe)
          have HYE := Lib.hid (HY18.out.later hbe)
          have HS5E := Lib.hid (HS5.out.later hbe)
          clear hbe x0 x1 xf xz y0 y1 yf yz
          obtain ⟨x0, x1, xf, xz⟩ := HXE.out.v2
          obtain ⟨y0, y1, yf, yz⟩ := HYE.out.v2
          by_cases hlt : k < sn
          rotate_left
          · obtain rfl : sn = k := by omega
            generalize wr = U at *
            go_wp2_with fail
            clear x0 x1 xf xz y0 y1 yf yz
            go_loopw [18] (fun i wr => ∃ k : Nat, 1 ≤ k ∧ k + 1 ≤ n3 ∧ i = .int .i64 k ∧ Below U.heap.size U wr) (fun i _ => n3 - (intOf i).toNat)
            case atStart => exact ⟨1, by omega, by omega, rfl, Below.refl _ _⟩
            case round =>
              obtain ⟨k, hk1, hk2, rfl, hbe⟩ := hrel
              have HBF := Lib.hid (HBE.out.trans (hbe.mono HBE.out.size))
              have HBL := Lib.hid (HBK.out.trans (hbe.mono HBK.out.size))
              have HXF := Lib.hid (HXE.out.later hbe)
              have HYF := Lib.hid (HYE.out.later hbe)
              have HS5F := Lib.hid (HS5E.out.later hbe)
              have HBU := Lib.hid hbe
              clear hbe
              obtain ⟨x0, x1, xf, xz⟩ := HXF.out.v2
              obtain ⟨y0, y1, yf, yz⟩ := HYF.out.v2
              by_cases hlt : k + 1 < n3
              rotate_left
              · obtain rfl : n3 = k + 1 := by omega
                have d0 : decide ((k : Int) < ((k + 1 : Nat) : Int) - 1) = false := decide_eq_false (by omega)
                go_wp2_with fail
                go_ret
                exact ⟨rfl, HBF.out⟩
              have d0 : decide ((k : Int) < (n3 : Int) - 1) = true := decide_eq_true (by omega)
              have hkn : (k : Int) < (n3 : Int) := by omega
              have hkl : k < l.length := by rw [HLN.out]; omega
              obtain ⟨hF1, hF2⟩ := HCL.out.flt k (by omega) (by rw [HLN.out]; omega)
              have l0 := ((HC5.out k hkl).below HBL.out hbb5).c1
              rw [Nat.mul_one, ← getD_geI] at l0
              obtain ⟨m1, hm1⟩ : ∃ x, l.getD k 0 = x := ⟨_, rfl⟩
              rw [hm1] at hF1 hF2 l0
              have hb5z : b5 < wr.heap.size := Nat.lt_of_lt_of_le hbb5 HBL.out.size
              obtain ⟨F, hF⟩ : ∃ F, offL S (upL S m1 S.length ++ [m1]) = F := ⟨_, rfl⟩
              obtain ⟨f1, f2, f3, f4, f5, f6⟩ := hF2 F hF
              rw [HSN.out] at f1 f4
              have K39 := Lib.hid (fun (w1 : World) (hb : Below w.heap.size w w1) v hs => C39.out w1 hb v S m1 hs HCL.out.szS)
              rw [hF1, hF] at K39
              have K46 := Lib.hid (fun (w1 : World) (hb : Below w.heap.size w w1) v (hs : Sl Sx.enc 3 w1 w1.heap.size v F) => C46.out w1 hb v F hs f2)
              rw [f3] at K46
              have K45 := Lib.hid (fun (w1 : World) (hb : Below w.heap.size w w1) v (hs : Sl Sx.enc 3 w1 w1.heap.size v F) => C45.out w1 hb v F hs f2)
              rw [f6] at K45
              generalize resumeTo p l F l.length = R at *
              generalize stopTo p l true F l.length = R2 at *
              have K69 := Lib.hid (fun (w1 : World) (v v' : Value) (h1 : Sl Sx.enc 3 w1 w1.heap.size v R) (h2 : Sl Sx.enc 3 w1 w1.heap.size v' S) => same69 v v' R S w1 h1 h2)
              rw [f5] at K69
              have HLF := Lib.hid f1
              have HLR := Lib.hid f4
              clear hF1 hF2 hm1 hF f1 f2 f3 f4 f5 f6 hkl
              go_wp2_with fail
              refine wp_region_three_drew 7 _ rfl rfl (by kernel_rfl) (by kernel_rfl) ?_
              simp only [List.take_succ_cons, List.take_zero, List.drop_succ_cons, List.drop_zero]
              repeat go_big_quiet_step (fail)
              refine wpQuiet_nil ?_
              rintro _ ⟨nq, rfl⟩
              have hb0 := below_drewN (Below.refl wr.heap.size wr) nq
              refine ⟨39, _, ?_, (K39.out _ (below_drewN HBF.out nq) _ (HS5F.out.later hb0)).mono ?_⟩
              · go_simp
                first | done | rfl
              intro e19 w19 hh
              obtain ⟨v16, rfl, hs16, hb1⟩ := hh.any rfl (by rw [HLF.out]; omega)
              have hb := hb0.trans (hb1.mono hb0.size)
              have HS16 := Lib.hid hs16
              obtain ⟨a16, c16, rfl, _, _⟩ := hs16
              rw [HLF.out] at HS16 ⊢
              clear hh hb1 hb0
              refine ⟨_, rfl, ?_⟩
              simp only [Act.put, List.setIfInBounds_toArray, List.set_cons_succ, List.set_cons_zero, List.drop_succ_cons, List.drop_zero]
              repeat go_big_quiet_step (fail)
              refine wpQuiet_nil ?_
              have HB19 := Lib.hid (HBF.out.trans (hb.mono HBF.out.size))
              have HX19 := Lib.hid (HXF.out.later hb)
              have HY19 := Lib.hid (HYF.out.later hb)
              have HS5Fn := Lib.hid (HS5F.out.later hb)
              clear HS5F
              have HS5F := HS5Fn
              clear HS5Fn
              have HBUn := Lib.hid (HBU.out.trans (hb.mono HBU.out.size))
              clear HBU
              have HBU := HBUn
              clear HBUn
              clear hb x0 x1 xf xz y0 y1 yf yz HBF HXF HYF
              obtain ⟨x0, x1, xf, xz⟩ := HX19.out.v2
              obtain ⟨y0, y1, yf, yz⟩ := HY19.out.v2
              go_wp2_with fail
              refine (K46.out _ HB19.out _ HS16.out).mono ?_
              intro e20 w20 hh
              obtain ⟨v17, rfl, hs17, hb⟩ := hh.any rfl (by rw [HLR.out]; omega)
              have HS17 := Lib.hid hs17
              obtain ⟨a17, c17, rfl, _, _⟩ := hs17
              rw [HLR.out] at HS17 ⊢
              clear hh
              have HB20 := Lib.hid (HB19.out.trans (hb.mono HB19.out.size))
              have HX20 := Lib.hid (HX19.out.later hb)
              have HY20 := Lib.hid (HY19.out.later hb)
              have HS5Fn := Lib.hid (HS5F.out.later hb)
              clear HS5F
              have HS5F := HS5Fn
              clear HS5Fn
              have HS16n := Lib.hid (HS16.out.later hb)
              clear HS16
              have HS16 := HS16n
              clear HS16n
              have HBUn := Lib.hid (HBU.out.trans (hb.mono HBU.out.size))
              clear HBU
              have HBU := HBUn
              clear HBUn
              clear hb x0 x1 xf xz y0 y1 yf yz HB19 HX19 HY19
              obtain ⟨x0, x1, xf, xz⟩ := HX20.out.v2
              obtain ⟨y0, y1, yf, yz⟩ := HY20.out.v2
              go_wp2_with fail
              refine (K69.out _ _ _ HS17.out HS5F.out).mono ?_
              rintro e21 w21 ⟨rfl, hb⟩
              have HB21 := Lib.hid (HB20.out.trans (hb.mono HB20.out.size))
              have HX21 := Lib.hid (HX20.out.later hb)
              have HY21 := Lib.hid (HY20.out.later hb)
              have HS5Fn := Lib.hid (HS5F.out.later hb)
              clear HS5F
              have HS5F := HS5Fn
              clear HS5Fn
              have HS16n := Lib.hid (HS16.out.later hb)
              clear HS16
              have HS16 := HS16n
              clear HS16n
              have HS17n := Lib.hid (HS17.out.later hb)
              clear HS17
              have HS17 := HS17n
              clear HS17n
              have HBUn := Lib.hid (HBU.out.trans (hb.mono HBU.out.size))
              clear HBU
              have HBU := HBUn
              clear HBUn
              clear hb x0 x1 xf xz y0 y1 yf yz HB20 HX20 HY20
              obtain ⟨x0, x1, xf, xz⟩ := HX21.out.v2
              obtain ⟨y0, y1, yf, yz⟩ := HY21.out.v2
              go_wp2_with fail
              refine (K45.out _ HB21.out _ HS16.out).mono ?_
              intro e22 w22 hh
              obtain ⟨a18, c18, rfl, hb⟩ := hh.bad (by decide)
              clear hh
              have HB22 := Lib.hid (HB21.out.trans (hb.mono HB21.out.size))
              have HX22 := Lib.hid (HX21.out.later hb)
              have HY22 := Lib.hid (HY21.out.later hb)
              have HS5Fn := Lib.hid (HS5F.out.later hb)
              clear HS5F
              have HS5F := HS5Fn
              clear HS5Fn
              have HS16n := Lib.hid (HS16.out.later hb)
              clear HS16
              have HS16 := HS16n
              clear HS16n
              have HS17n := Lib.hid (HS17.out.later hb)
              clear HS17
              have HS17 := HS17n
              clear HS17n
              have HBUn := Lib.hid (HBU.out.trans (hb.mono HBU.out.size))
              clear HBU
              have HBU := HBUn
              clear HBUn
              clear hb x0 x1 xf xz y0 y1 yf yz HB21 HX21 HY21
              obtain ⟨x0, x1, xf, xz⟩ := HX22.out.v2
              obtain ⟨y0, y1, yf, yz⟩ := HY22.out.v2
              go_wp2_with fail
              go_roundw
              case rel => exact ⟨k + 1, by omega, by omega, by go_num, HBU.out⟩
              case measure => simp [intOf]; omega
          have hks : k < st.length := by rw [HSN.out]; exact hlt
          have hkc : k < C.length := by rw [HLC.out]; exact hlt
          have hkm : k < p.ms.length := by rw [← HPL2.out]; exact hlt
          have hkn1 : k < n1 := by rw [← HM1.out]; exact hkm
          obtain ⟨as', cs', e5, _, hAs⟩ := id HSTw.out
          rw [HSN.out] at e5
          cases e5
          obtain ⟨bs, os, rfl, hbbs, hcs⟩ := hAs (by omega)
          obtain ⟨ac', cc', e5, _, hAc⟩ := id HS6.out
          rw [HLC.out] at e5
          cases e5
          obtain ⟨bc, oc, rfl, hbbc, hcc⟩ := hAc (by omega)
          obtain ⟨bm, om, rfl, hbbm, hcm⟩ := HMA.out (by omega)
          have hab := HAT.out k hks
          have e1 : sAt st k = st[k] := stGet hks
          have e2 : sAt C k = C[k] := stGet hkc
          have e3 : kdA p (k : Int) = p.ms[k].kind := kdA_nat hkm
          rw [e1, e2, e3] at hab
          have d1 := hcs k hks
          have d2 := hcc k hkc
          have d3 := hcm k hkm
          clear hcs hcc hcm hAs hAc e1 e2 e3
          generalize st[k] = sx at *
          generalize C[k] = cx at *
          generalize p.ms[k] = mx at *
          obtain ⟨rn', fd', gr⟩ := sx
          obtain ⟨rn, fd, gc⟩ := cx
          obtain ⟨sm, tm⟩ := mx
          dsimp only at hab
          obtain ⟨rfl, rfl, hab⟩ := hab
          obtain ⟨s0, s1, s2⟩ := (d1.below HBK.out hbbs).c3
          have D2 := Lib.hid d2
          have D3 := Lib.hid d3
          clear d1 d2 d3
          dsimp only at s0 s1 s2
          have hbsz : bs < wr.heap.size := Nat.lt_of_lt_of_le hbbs HBK.out.size
          have hb2 : Below wr.heap.size wr (wr.alloc (.cells #[.bool rn, .int .i64 fd, .string gr] 100)) := (Below.refl _ _).alloc (Nat.le_refl _) _
          have HBE3 := Lib.hid (HBE.out.trans (hb2.mono HBE.out.size))
          have HBK3 := Lib.hid (HBK.out.trans (hb2.mono HBK.out.size))
          have HXE3 := Lib.hid (HXE.out.later hb2)
          have HYE3 := Lib.hid (HYE.out.later hb2)
          have HT3 := Lib.hid (Box.new wr #[.bool rn, .int .i64 fd, .string gr] 100)
          clear hb2 hks hkc hkm
          obtain ⟨W3, hW3⟩ : ∃ W, wr.alloc (.cells #[.bool rn, .int .i64 fd, .string gr] 100) = W := ⟨_, rfl⟩
          rw [hW3] at HBE3 HBK3 HXE3 HYE3 HT3
          have C24k := Lib.hid (fun (w1 : World) (hb : Below w.heap.size w w1) => C24.out w1 hb (k : Int))
          obtain ⟨q3, hq3⟩ : ∃ q, l.contains (k : Int) = q := ⟨_, rfl⟩
          obtain ⟨q4, hq4⟩ : ∃ q, cvB sm = q := ⟨_, rfl⟩
          obtain ⟨q1, hq1⟩ : ∃ q, ((k : Int) == la) = q := ⟨_, rfl⟩
          obtain ⟨q2, hq2⟩ : ∃ q, (sm.toList == [98, 105, 110]) = q := ⟨_, rfl⟩
          have HK42 := Lib.hid (fun w1 => isConveyor42 sm w1)
          rw [hq3] at C24k hab
          rw [hq4] at HK42 hab
          rw [hq1, hq2] at hab
          clear hq3 hq4
          obtain ⟨x30, x31, x3f, x3z⟩ := HXE3.out.v2
          obtain ⟨y30, y31, y3f, y3z⟩ := HYE3.out.v2
          obtain ⟨t0, t1, t2, tf, tz⟩ := HT3.out.t3
          obtain ⟨m0, m1⟩ := (D3.out.below HBK3.out hbbm).c2
          dsimp only at m0 m1
          have hbmz : bm < W3.heap.size := Nat.lt_of_lt_of_le hbbm HBK3.out.size
          cases q1 with
          | true =>
            cases q2 with
            | true =>
              have HBE4 := Lib.hid (HBE3.out.setCell (p := ⟨wr.heap.size, 2, none⟩) (by dsimp only; have := HBE.out.size; omega) (.string gn))
              have HBK4 := Lib.hid (HBK3.out.setCell (p := ⟨wr.heap.size, 2, none⟩) (by dsimp only; have := HBK.out.size; omega) (.string gn))
              have HT4 := Lib.hid (HT3.out.set 2 (.string gn))
              have HXE4 := Lib.hid (HXE3.out.other (a := ⟨wr.heap.size, 2, none⟩) (.string gn) (by dsimp only; omega))
              have HYE4 := Lib.hid (HYE3.out.other (a := ⟨wr.heap.size, 2, none⟩) (.string gn) (by dsimp only; omega))
              obtain ⟨x40, x41, x4f, x4z⟩ := HXE4.out.v2
              obtain ⟨y40, y41, y4f, y4z⟩ := HYE4.out.v2
              obtain ⟨m40, m41⟩ := (D3.out.below HBK4.out hbbm).c2
              dsimp only at m40 m41
              go_wp2_with fail
              refine (C24k.out _ HBE4.out).mono ?_
              rintro e5 w5 ⟨rfl, rfl⟩
              cases q3 with
              | true =>
                go_wp2_with fail
                refine (HK42.out _).mono ?_
                rintro e6 w6 ⟨rfl, rfl⟩
                cases q4 with
                | true =>
                  replace hab : gc.toList = (⟨#[]⟩ : ByteArray).toList := hab
                  have HB5 := Lib.hid (HBK4.out.setCell (p := ⟨wr.heap.size, 2, none⟩) (by dsimp only; have := HBK.out.size; have := HB18.out.size; omega) (.string ⟨#[]⟩))
                  have HT5 := Lib.hid (HT4.out.set 2 (.string ⟨#[]⟩))
                  obtain ⟨f0, f1, f2⟩ := (D2.out.below HB5.out hbbc).c3
                  obtain ⟨f30, f31, f32⟩ := (D2.out.below HBK3.out hbbc).c3
                  obtain ⟨g0, g1, g2, gf, gz⟩ := HT5.out.t3
                  dsimp only at f0 f1 f2 f30 f31 f32
                  have hbcz3 := Nat.lt_of_lt_of_le hbbc HBK3.out.size
                  have hbcz := Nat.lt_of_lt_of_le hbbc HB5.out.size
                  have hq : (gc.toList == (⟨#[]⟩ : ByteArray).toList) = true := by rw [hab]; simp
                  go_wp2_with fail
                  refine wp_region_later (by kernel_rfl) (by kernel_rfl) ?_
                  repeat go_big_quiet_step (fail)
                  refine wpQuiet_nil ?_
                  rintro w6 ⟨⟨_, hb6⟩, rfl⟩
                  go_wp2_with fail
                  go_roundw
                  case rel => exact ⟨k + 1, by omega, by go_num, HB5.out.trans (hb6.mono HB5.out.size)⟩
                  case measure => simp [intOf]; omega
                | false =>
                  replace hab : gc.toList = (gn : ByteArray).toList := hab
                  obtain ⟨f0, f1, f2⟩ := (D2.out.below HBK4.out hbbc).c3
                  obtain ⟨f30, f31, f32⟩ := (D2.out.below HBK3.out hbbc).c3
                  obtain ⟨g0, g1, g2, gf, gz⟩ := HT4.out.t3
                  dsimp only at f0 f1 f2 f30 f31 f32
                  have hbcz3 := Nat.lt_of_lt_of_le hbbc HBK3.out.size
                  have hbcz := Nat.lt_of_lt_of_le hbbc HBK4.out.size
                  have hq : (gc.toList == (gn : ByteArray).toList) = true := by rw [hab]; simp
                  go_wp2_with fail
                  refine wp_region_later (by kernel_rfl) (by kernel_rfl) ?_
                  repeat go_big_quiet_step (fail)
                  refine wpQuiet_nil ?_
                  rintro w6 ⟨⟨_, hb6⟩, rfl⟩
                  go_wp2_with fail
                  go_roundw
                  case rel => exact ⟨k + 1, by omega, by go_num, HBK4.out.trans (hb6.mono HBK4.out.size)⟩
                  case measure => simp [intOf]; omega
              | false =>
                replace hab : gc.toList = (gn : ByteArray).toList := hab
                obtain ⟨f0, f1, f2⟩ := (D2.out.below HBK4.out hbbc).c3
                obtain ⟨f30, f31, f32⟩ := (D2.out.below HBK3.out hbbc).c3
                obtain ⟨g0, g1, g2, gf, gz⟩ := HT4.out.t3
                dsimp only at f0 f1 f2 f30 f31 f32
                have hbcz3 := Nat.lt_of_lt_of_le hbbc HBK3.out.size
                have hbcz := Nat.lt_of_lt_of_le hbbc HBK4.out.size
                have hq : (gc.toList == (gn : ByteArray).toList) = true := by rw [hab]; simp
                go_wp2_with fail
                refine wp_region_later (by kernel_rfl) (by kernel_rfl) ?_
                repeat go_big_quiet_step (fail)
                refine wpQuiet_nil ?_
                rintro w6 ⟨⟨_, hb6⟩, rfl⟩
                go_wp2_with fail
                go_roundw
                case rel => exact ⟨k + 1, by omega, by go_num, HBK4.out.trans (hb6.mono HBK4.out.size)⟩
                case measure => simp [intOf]; omega
            | false =>
              go_wp2_with fail
              refine (C24k.out _ HBE3.out).mono ?_
              rintro e5 w5 ⟨rfl, rfl⟩
              cases q3 with
              | true =>
                go_wp2_with fail
                refine (HK42.out _).mono ?_
                rintro e6 w6 ⟨rfl, rfl⟩
                cases q4 with
                | true =>
                  replace hab : gc.toList = (⟨#[]⟩ : ByteArray).toList := hab
                  have HB5 := Lib.hid (HBK3.out.setCell (p := ⟨wr.heap.size, 2, none⟩) (by dsimp only; have := HBK.out.size; have := HB18.out.size; omega) (.string ⟨#[]⟩))
                  have HT5 := Lib.hid (HT3.out.set 2 (.string ⟨#[]⟩))
                  obtain ⟨f0, f1, f2⟩ := (D2.out.below HB5.out hbbc).c3
                  obtain ⟨f30, f31, f32⟩ := (D2.out.below HBK3.out hbbc).c3
                  obtain ⟨g0, g1, g2, gf, gz⟩ := HT5.out.t3
                  dsimp only at f0 f1 f2 f30 f31 f32
                  have hbcz3 := Nat.lt_of_lt_of_le hbbc HBK3.out.size
                  have hbcz := Nat.lt_of_lt_of_le hbbc HB5.out.size
                  have hq : (gc.toList == (⟨#[]⟩ : ByteArray).toList) = true := by rw [hab]; simp
                  go_wp2_with fail
                  refine wp_region_later (by kernel_rfl) (by kernel_rfl) ?_
                  repeat go_big_quiet_step (fail)
                  refine wpQuiet_nil ?_
                  rintro w6 ⟨⟨_, hb6⟩, rfl⟩
                  go_wp2_with fail
                  go_roundw
                  case rel => exact ⟨k + 1, by omega, by go_num, HB5.out.trans (hb6.mono HB5.out.size)⟩
                  case measure => simp [intOf]; omega
                | false =>
                  replace hab : gc.toList = (gr : ByteArray).toList := hab
                  obtain ⟨f0, f1, f2⟩ := (D2.out.below HBK3.out hbbc).c3
                  obtain ⟨f30, f31, f32⟩ := (D2.out.below HBK3.out hbbc).c3
                  obtain ⟨g0, g1, g2, gf, gz⟩ := HT3.out.t3
                  dsimp only at f0 f1 f2 f30 f31 f32
                  have hbcz3 := Nat.lt_of_lt_of_le hbbc HBK3.out.size
                  have hbcz := Nat.lt_of_lt_of_le hbbc HBK3.out.size
                  have hq : (gc.toList == (gr : ByteArray).toList) = true := by rw [hab]; simp
                  go_wp2_with fail
                  refine wp_region_later (by kernel_rfl) (by kernel_rfl) ?_
                  repeat go_big_quiet_step (fail)
                  refine wpQuiet_nil ?_
                  rintro w6 ⟨⟨_, hb6⟩, rfl⟩
                  go_wp2_with fail
                  go_roundw
                  case rel => exact ⟨k + 1, by omega, by go_num, HBK3.out.trans (hb6.mono HBK3.out.size)⟩
                  case measure => simp [intOf]; omega
              | false =>
                replace hab : gc.toList = (gr : ByteArray).toList := hab
                obtain ⟨f0, f1, f2⟩ := (D2.out.below HBK3.out hbbc).c3
                obtain ⟨f30, f31, f32⟩ := (D2.out.below HBK3.out hbbc).c3
                obtain ⟨g0, g1, g2, gf, gz⟩ := HT3.out.t3
                dsimp only at f0 f1 f2 f30 f31 f32
                have hbcz3 := Nat.lt_of_lt_of_le hbbc HBK3.out.size
                have hbcz := Nat.lt_of_lt_of_le hbbc HBK3.out.size
                have hq : (gc.toList == (gr : ByteArray).toList) = true := by rw [hab]; simp
                go_wp2_with fail
                refine wp_region_later (by kernel_rfl) (by kernel_rfl) ?_
                repeat go_big_quiet_step (fail)
                refine wpQuiet_nil ?_
                rintro w6 ⟨⟨_, hb6⟩, rfl⟩
                go_wp2_with fail
                go_roundw
                case rel => exact ⟨k + 1, by omega, by go_num, HBK3.out.trans (hb6.mono HBK3.out.size)⟩
                case measure => simp [intOf]; omega
          | false =>
            go_wp2_with fail
            refine (C24k.out _ HBE3.out).mono ?_
            rintro e5 w5 ⟨rfl, rfl⟩
            cases q3 with
            | true =>
              go_wp2_with fail
              refine (HK42.out _).mono ?_
              rintro e6 w6 ⟨rfl, rfl⟩
              cases q4 with
              | true =>
                replace hab : gc.toList = (⟨#[]⟩ : ByteArray).toList := hab
                have HB5 := Lib.hid (HBK3.out.setCell (p := ⟨wr.heap.size, 2, none⟩) (by dsimp only; have := HBK.out.size; have := HB18.out.size; omega) (.string ⟨#[]⟩))
                have HT5 := Lib.hid (HT3.out.set 2 (.string ⟨#[]⟩))
                obtain ⟨f0, f1, f2⟩ := (D2.out.below HB5.out hbbc).c3
                obtain ⟨f30, f31, f32⟩ := (D2.out.below HBK3.out hbbc).c3
                obtain ⟨g0, g1, g2, gf, gz⟩ := HT5.out.t3
                dsimp only at f0 f1 f2 f30 f31 f32
                have hbcz3 := Nat.lt_of_lt_of_le hbbc HBK3.out.size
                have hbcz := Nat.lt_of_lt_of_le hbbc HB5.out.size
                have hq : (gc.toList == (⟨#[]⟩ : ByteArray).toList) = true := by rw [hab]; simp
                go_wp2_with fail
                refine wp_region_later (by kernel_rfl) (by kernel_rfl) ?_
                repeat go_big_quiet_step (fail)
                refine wpQuiet_nil ?_
                rintro w6 ⟨⟨_, hb6⟩, rfl⟩
                go_wp2_with fail
                go_roundw
                case rel => exact ⟨k + 1, by omega, by go_num, HB5.out.trans (hb6.mono HB5.out.size)⟩
                case measure => simp [intOf]; omega
              | false =>
                replace hab : gc.toList = (gr : ByteArray).toList := hab
                obtain ⟨f0, f1, f2⟩ := (D2.out.below HBK3.out hbbc).c3
                obtain ⟨f30, f31, f32⟩ := (D2.out.below HBK3.out hbbc).c3
                obtain ⟨g0, g1, g2, gf, gz⟩ := HT3.out.t3
                dsimp only at f0 f1 f2 f30 f31 f32
                have hbcz3 := Nat.lt_of_lt_of_le hbbc HBK3.out.size
                have hbcz := Nat.lt_of_lt_of_le hbbc HBK3.out.size
                have hq : (gc.toList == (gr : ByteArray).toList) = true := by rw [hab]; simp
                go_wp2_with fail
                refine wp_region_later (by kernel_rfl) (by kernel_rfl) ?_
                repeat go_big_quiet_step (fail)
                refine wpQuiet_nil ?_
                rintro w6 ⟨⟨_, hb6⟩, rfl⟩
                go_wp2_with fail
                go_roundw
                case rel => exact ⟨k + 1, by omega, by go_num, HBK3.out.trans (hb6.mono HBK3.out.size)⟩
                case measure => simp [intOf]; omega
            | false =>
              replace hab : gc.toList = (gr : ByteArray).toList := hab
              obtain ⟨f0, f1, f2⟩ := (D2.out.below HBK3.out hbbc).c3
              obtain ⟨f30, f31, f32⟩ := (D2.out.below HBK3.out hbbc).c3
              obtain ⟨g0, g1, g2, gf, gz⟩ := HT3.out.t3
              dsimp only at f0 f1 f2 f30 f31 f32
              have hbcz3 := Nat.lt_of_lt_of_le hbbc HBK3.out.size
              have hbcz := Nat.lt_of_lt_of_le hbbc HBK3.out.size
              have hq : (gc.toList == (gr : ByteArray).toList) = true := by rw [hab]; simp
              go_wp2_with fail
              refine wp_region_later (by kernel_rfl) (by kernel_rfl) ?_
              repeat go_big_quiet_step (fail)
              refine wpQuiet_nil ?_
              rintro w6 ⟨⟨_, hb6⟩, rfl⟩
              go_wp2_with fail
              go_roundw
              case rel => exact ⟨k + 1, by omega, by go_num, HBK3.out.trans (hb6.mono HBK3.out.size)⟩
              case measure => simp [intOf]; omega
      | false =>
        go_wp2_with fail
        refine (awake16 _ (HWD.out.later HB8.out)).mono ?_
        rintro e23 w23 ⟨rfl, hb⟩
        have HB23 := Lib.hid (HB8.out.trans (hb.mono HB8.out.size))
        have HX23 := Lib.hid (HX8.out.later hb)
        have HY23 := Lib.hid (HY8.out.later hb)
        clear hb x0 x1 xf xz y0 y1 yf yz HB8 HX8 HY8
        obtain ⟨x0, x1, xf, xz⟩ := HX23.out.v2
        obtain ⟨y0, y1, yf, yz⟩ := HY23.out.v2
        go_wp2_with fail
        go_ret
        exact ⟨rfl, HB23.out⟩
end Go.Proofs.YtahpdkkpnkhnhaaGreatDoor
