/- Lemmas on the way to the laws (part 33): Kh Jb La Lb -/
import Derived.Test.YtahpdkkpnkhnhaaGreatDoorLib32
import Derived.Test.YtahpdkkpnkhnhaaGreatDoorLib29
set_option linter.unusedVariables false
set_option linter.unusedSimpArgs false

/- Walks: the law PathStarts. -/
namespace Go.Proofs.YtahpdkkpnkhnhaaGreatDoor
open Go Go.Proofs Go.RowKit Go.Shelf

theorem own_nil {w : World} {B : Nat} {v : Value} (h : Own Sx.enc 3 100 w B v []) : ∃ a c, v = .slice a 0 c := by
  obtain ⟨a, c, e⟩ := h.shape
  exact ⟨a, c, e⟩
/-- What StE gives at an error. -/
theorem StE.bad {w : World} {E : Int} {L : List Sx} {e : Ending} {w' : World} (h : StE w E L e w') (hE : E ≠ 0) : ∃ a c, e = .returned (.tuple #[.slice a 0 c, .int .i64 E]) ∧ Below w.heap.size w w' := by
  obtain ⟨v, rfl, ho, hb⟩ := h
  rw [if_pos hE] at ho
  obtain ⟨a, c, rfl⟩ := own_nil ho
  exact ⟨a, c, rfl, hb⟩
theorem StE.good {w : World} {L : List Sx} {e : Ending} {w' : World} (h : StE w 0 L e w') (hl : L.length ≤ 1000000000) : ∃ v, e = .returned (.tuple #[v, .int .i64 0]) ∧ Sl Sx.enc 3 w' w'.heap.size v L ∧ Below w.heap.size w w' := by
  obtain ⟨v, rfl, ho, hb⟩ := h
  rw [if_neg (by simp)] at ho
  exact ⟨v, rfl, ho.toSl Sx.enc_len hl, hb⟩
theorem StatePost.good {w : World} {L : List Sx} {e : Ending} {w' : World} (h : StatePost w L e w') (hl : L.length ≤ 1000000000) : ∃ v, e = .returned v ∧ Sl Sx.enc 3 w' w'.heap.size v L ∧ Below w.heap.size w w' := by
  obtain ⟨v, rfl, ho, hb⟩ := h
  exact ⟨v, rfl, ho.toSl Sx.enc_len hl, hb⟩

set_option maxRecDepth 100000 in
set_option maxHeartbeats 1000000 in
theorem starts4 (w : World) (a1 a2 a3 : Option Addr) (n1 n2 n3 c1 c2 c3 : Nat) (u : Value) (gn : ByteArray) (p : Pl) (st : List Sx) (l : List Int) (hwd : WdR w) (hn1 : n1 ≤ 9223372036854775807) (hn2 : n2 ≤ 9223372036854775807) (hn3 : n3 ≤ 9223372036854775807)
    (hv : n1 ≤ 70 → n2 ≤ 260 → PlR w w.heap.size (.slice a1 n1 c1) (.slice a2 n2 c2) p ∧ p.ms.length = n1 ∧ p.arcs.length = n2 ∧ ∀ m ∈ p.ms, m.kind.size ≤ 9223372036854775807)
    (hl : n3 ≤ 80 → Sl encI 1 w w.heap.size (.slice a3 n3 c3) l) (hu : SlL Sx.enc 3 w w.heap.size u st) (hs : SzR st) (hgn : gn.size ≤ 9223372036854775807) :
    Calls Tryz.prog 4 #[.agg #[.slice a1 n1 c1, .slice a2 n2 c2], u, .agg #[.slice a3 n3 c3, .string gn]] w (Ret (.bool true) w) := by
  obtain ⟨g, hg⟩ : ∃ g, heavyB p n1 n2 [.slice a3 n3 c3] = g := ⟨_, rfl⟩
  have HH := Lib.hid (fun (w1 : World) (hb : Below w.heap.size w w1) (u : Option Addr) (hu : Sl Val1 1 w1 w1.heap.size (.slice u 1 1) [.slice a3 n3 c3]) => heavy17 w1 a1 a2 u n1 n2 1 c1 c2 1 p [.slice a3 n3 c3] hn1 hn2 (fun x y => ⟨(hv x y).1.later hb, (hv x y).2⟩) hu (by
    intro v hv
    rw [List.mem_singleton] at hv
    subst hv
    exact ⟨_, _, _, rfl, hn3⟩))
  rw [hg] at HH
  have HLG := Lib.hid (fun (w1 : World) (hb : Below w.heap.size w w1) => long25 u st w1 (hu.later hb) hs)
  obtain ⟨lb, hlb⟩ : ∃ g, longB st = g := ⟨_, rfl⟩
  rw [hlb] at HLG
  have HG := Lib.hid hg
  have HLB := Lib.hid hlb
  have HWD := Lib.hid hwd
  have HV := Lib.hid hv
  have HLL := Lib.hid hl
  have HU := Lib.hid hu
  have HSZ := Lib.hid hs
  have HGN := Lib.hid hgn
  obtain ⟨a4, c4, rfl, _, _⟩ := id hu
  obtain ⟨sn, hsn⟩ : ∃ n, st.length = n := ⟨_, rfl⟩
  rw [hsn] at HLG HU ⊢
  have HSN := Lib.hid hsn
  clear hwd hv hl hg hu hs hlb hsn
  have HB := Lib.hid (((Below.refl w.heap.size w).alloc (Nat.le_refl _) (.cells #[.slice a1 n1 c1, .slice a2 n2 c2] 25)).alloc (by simp) (.cells #[.slice a3 n3 c3, .string gn] 41))
  have HX := Lib.hid ((Box.new w #[.slice a1 n1 c1, .slice a2 n2 c2] 25).alloc (.cells #[.slice a3 n3 c3, .string gn] 41))
  have HY := Lib.hid (Box.newAt (w.alloc (.cells #[.slice a1 n1 c1, .slice a2 n2 c2] 25)) #[.slice a3 n3 c3, .string gn] 41 (by simp : _ = w.heap.size + 1))
  go_enter Tryz.func4, Tryz.ntmps4
  go_wp2_with fail
  refine (awake16 _ (HWD.out.later HB.out)).mono ?_
  rintro e2 w2 ⟨rfl, hb⟩
  have HB2 := Lib.hid (HB.out.trans (hb.mono HB.out.size))
  have HX2 := Lib.hid (HX.out.later hb)
  have HY2 := Lib.hid (HY.out.later hb)
  clear hb
  obtain ⟨x0, x1, xf, xz⟩ := HX2.out.v2
  obtain ⟨y0, y1, yf, yz⟩ := HY2.out.v2
  go_wp2_with fail
  have hba : Below w2.heap.size w2 (w2.alloc (.cells #[.slice a3 n3 c3] 26)) := (Below.refl _ _).alloc (Nat.le_refl _) _
  have HBa := Lib.hid (HB2.out.trans (hba.mono HB2.out.size))
  have HXa := Lib.hid (HX2.out.later hba)
  have HYa := Lib.hid (HY2.out.later hba)
  clear hba x0 x1 xf xz y0 y1 yf yz
  refine (HH.out _ HBa.out _ (Sl.one rfl)).mono ?_
  rintro e3 w3 ⟨rfl, hb⟩
  have HB3 := Lib.hid (HBa.out.trans (hb.mono HBa.out.size))
  have HX3 := Lib.hid (HXa.out.later hb)
  have HY3 := Lib.hid (HYa.out.later hb)
  clear hb
  obtain ⟨x0, x1, xf, xz⟩ := HX3.out.v2
  obtain ⟨y0, y1, yf, yz⟩ := HY3.out.v2
  cases g with
  | true =>
    go_wp2_with fail
    refine (awake16 _ (HWD.out.later HB3.out)).mono ?_
    rintro e4 w4 ⟨rfl, hb⟩
    have HB4 := Lib.hid (HB3.out.trans (hb.mono HB3.out.size))
    have HX4 := Lib.hid (HX3.out.later hb)
    have HY4 := Lib.hid (HY3.out.later hb)
    clear hb x0 x1 xf xz y0 y1 yf yz
    obtain ⟨x0, x1, xf, xz⟩ := HX4.out.v2
    obtain ⟨y0, y1, yf, yz⟩ := HY4.out.v2
    go_wp2_with fail
    go_ret
    exact ⟨rfl, HB4.out⟩
  | false =>
    go_wp2_with fail
    refine (HLG.out _ HB3.out).mono ?_
    rintro e5 w5 ⟨rfl, hb⟩
    have HB5 := Lib.hid (HB3.out.trans (hb.mono HB3.out.size))
    have HX5 := Lib.hid (HX3.out.later hb)
    have HY5 := Lib.hid (HY3.out.later hb)
    clear hb x0 x1 xf xz y0 y1 yf yz
    obtain ⟨x0, x1, xf, xz⟩ := HX5.out.v2
    obtain ⟨y0, y1, yf, yz⟩ := HY5.out.v2
    cases lb with
    | true =>
      go_wp2_with fail
      refine (awake16 _ (HWD.out.later HB5.out)).mono ?_
      rintro e6 w6 ⟨rfl, hb⟩
      have HB6 := Lib.hid (HB5.out.trans (hb.mono HB5.out.size))
      have HX6 := Lib.hid (HX5.out.later hb)
      have HY6 := Lib.hid (HY5.out.later hb)
      clear hb x0 x1 xf xz y0 y1 yf yz
      obtain ⟨x0, x1, xf, xz⟩ := HX6.out.v2
      obtain ⟨y0, y1, yf, yz⟩ := HY6.out.v2
      go_wp2_with fail
      go_ret
      exact ⟨rfl, HB6.out⟩
    | false =>
      by_cases h40 : 40 < gn.size
      · have d4 : decide ((40 : Int) < (gn.size : Int)) = true := decide_eq_true (by omega)
        clear h40
        go_wp2_with fail
        refine (awake16 _ (HWD.out.later HB5.out)).mono ?_
        rintro e7 w7 ⟨rfl, hb⟩
        have HB7 := Lib.hid (HB5.out.trans (hb.mono HB5.out.size))
        have HX7 := Lib.hid (HX5.out.later hb)
        have HY7 := Lib.hid (HY5.out.later hb)
        clear hb x0 x1 xf xz y0 y1 yf yz
        obtain ⟨x0, x1, xf, xz⟩ := HX7.out.v2
        obtain ⟨y0, y1, yf, yz⟩ := HY7.out.v2
        go_wp2_with fail
        go_ret
        exact ⟨rfl, HB7.out⟩
      have d4 : decide ((40 : Int) < (gn.size : Int)) = false := decide_eq_false (by omega)
      clear h40
      obtain ⟨q1, q2, q3, _, _⟩ := heavyB_no HG.out
      obtain ⟨hpl, hm1, hm2, _⟩ := HV.out q2 q3
      have hsl := HLL.out (q1 _ (List.mem_singleton.2 rfl))
      obtain ⟨q4, _⟩ := longB_no HLB.out
      have hst := HU.out
      rw [← HSN.out] at hst
      have hst := hst.short (by omega)
      rw [HSN.out] at hst
      have C26 := Lib.hid (fun (w1 : World) (hb : Below w.heap.size w w1) => start26 w1 _ _ _ _ gn p st l (HWD.out.later hb) (hpl.later hb) (hst.later hb) HSZ.out (hsl.later hb) HGN.out)
      have C27 := Lib.hid (fun (w1 : World) (hb : Below w.heap.size w w1) => checkState27 w1 _ _ _ p st (hpl.later hb) (hst.later hb) HSZ.out)
      have C22 := Lib.hid (fun (w1 : World) (hb : Below w.heap.size w w1) => checkPath22 w1 _ _ _ p l (hpl.later hb) (hsl.later hb))
      have C28 := Lib.hid (fun (w1 : World) => isName28 gn w1 HGN.out)
      have C29 := Lib.hid (fun (w1 : World) (hb : Below w.heap.size w w1) hin hln => checkStart29 w1 _ _ _ _ gn p st l (hpl.later hb) (hst.later hb) (hsl.later hb) hin hln)
      have C31 := Lib.hid (fun (w1 : World) (hb : Below w.heap.size w w1) hin hln hpos => start31 w1 _ _ _ _ gn p st l (hpl.later hb) (hst.later hb) (hsl.later hb) hin hln hpos)
      have HTL := Lib.hid (show (startTo p l gn st l.length).length ≤ 1000000000 by rw [startTo_len]; omega)
      have HOK := Lib.hid (fun h : setE p st l = 0 => setE_ok h)
      clear hpl hsl hst hm1 hm2 q1 q2 q3 q4
      obtain ⟨E, hE⟩ : ∃ E, startE p st l gn = E := ⟨_, rfl⟩
      rw [hE] at C26
      unfold startE at hE
      unfold setE at hE HOK
      obtain ⟨cs, hcs⟩ : ∃ c, ckState p st = c := ⟨_, rfl⟩
      rw [hcs] at hE C27 HOK
      clear hcs
      obtain ⟨cp, hcp⟩ : ∃ c, pathE p l = c := ⟨_, rfl⟩
      rw [hcp] at hE C22 HOK
      clear hcp
      obtain ⟨qn, hqn⟩ : ∃ c, isName gn = c := ⟨_, rfl⟩
      rw [hqn] at hE C28
      clear hqn
      obtain ⟨sl, hsl⟩ : ∃ c, startL p st gn 0 l = c := ⟨_, rfl⟩
      rw [hsl] at hE C29
      clear hsl
      by_cases h1 : cs = 0
      rotate_left
      · rw [if_pos h1, if_pos h1] at hE
        subst hE
        have HE0 := Lib.hid h1
        have k0 : (cs == 0) = false := beq_eq_false_iff_ne.2 h1
        have k1 : (cs != 0) = true := by simpa using h1
        clear h1 C22 C28 C29 C31 HOK
        go_wp2_with fail
        refine (C26.out _ HB5.out).mono ?_
        intro e8 w8 hh
        obtain ⟨a5, c5, rfl, hb⟩ := hh.bad HE0.out
        clear hh
        have HB8 := Lib.hid (HB5.out.trans (hb.mono HB5.out.size))
        have HX8 := Lib.hid (HX5.out.later hb)
        have HY8 := Lib.hid (HY5.out.later hb)
        clear hb x0 x1 xf xz y0 y1 yf yz
        obtain ⟨x0, x1, xf, xz⟩ := HX8.out.v2
        obtain ⟨y0, y1, yf, yz⟩ := HY8.out.v2
        go_wp2_with fail
        refine (C27.out _ HB8.out).mono ?_
        rintro e9 w9 ⟨rfl, hb⟩
        have HB9 := Lib.hid (HB8.out.trans (hb.mono HB8.out.size))
        have HX9 := Lib.hid (HX8.out.later hb)
        have HY9 := Lib.hid (HY8.out.later hb)
        clear hb x0 x1 xf xz y0 y1 yf yz
        obtain ⟨x0, x1, xf, xz⟩ := HX9.out.v2
        obtain ⟨y0, y1, yf, yz⟩ := HY9.out.v2
        go_wp2_with fail
        refine (states30_bad a5 c5 _ _ _ HE0.out).mono ?_
        rintro e10 w10 ⟨rfl, hb⟩
        have HB10 := Lib.hid (HB9.out.trans (hb.mono HB9.out.size))
        have HX10 := Lib.hid (HX9.out.later hb)
        have HY10 := Lib.hid (HY9.out.later hb)
        clear hb x0 x1 xf xz y0 y1 yf yz
        obtain ⟨x0, x1, xf, xz⟩ := HX10.out.v2
        obtain ⟨y0, y1, yf, yz⟩ := HY10.out.v2
        go_wp2_with fail
        go_ret
        exact ⟨rfl, HB10.out⟩
      subst h1
      rw [if_neg (show ¬ (0 : Int) ≠ 0 by simp)] at hE HOK
      by_cases h1 : cp = 0
      rotate_left
      · rw [if_pos h1] at hE
        subst hE
        have HE0 := Lib.hid h1
        have k0 : (cp == 0) = false := beq_eq_false_iff_ne.2 h1
        have k1 : (cp != 0) = true := by simpa using h1
        clear h1 C28 C29 C31 HOK
        go_wp2_with fail
        refine (C26.out _ HB5.out).mono ?_
        intro e11 w11 hh
        obtain ⟨a5, c5, rfl, hb⟩ := hh.bad HE0.out
        clear hh
        have HB11 := Lib.hid (HB5.out.trans (hb.mono HB5.out.size))
        have HX11 := Lib.hid (HX5.out.later hb)
        have HY11 := Lib.hid (HY5.out.later hb)
        clear hb x0 x1 xf xz y0 y1 yf yz
        obtain ⟨x0, x1, xf, xz⟩ := HX11.out.v2
        obtain ⟨y0, y1, yf, yz⟩ := HY11.out.v2
        go_wp2_with fail
        refine (C27.out _ HB11.out).mono ?_
        rintro e12 w12 ⟨rfl, hb⟩
        have HB12 := Lib.hid (HB11.out.trans (hb.mono HB11.out.size))
        have HX12 := Lib.hid (HX11.out.later hb)
        have HY12 := Lib.hid (HY11.out.later hb)
        clear hb x0 x1 xf xz y0 y1 yf yz
        obtain ⟨x0, x1, xf, xz⟩ := HX12.out.v2
        obtain ⟨y0, y1, yf, yz⟩ := HY12.out.v2
        go_wp2_with fail
        refine (C22.out _ HB12.out).mono ?_
        rintro e13 w13 ⟨rfl, hb⟩
        have HB13 := Lib.hid (HB12.out.trans (hb.mono HB12.out.size))
        have HX13 := Lib.hid (HX12.out.later hb)
        have HY13 := Lib.hid (HY12.out.later hb)
        clear hb x0 x1 xf xz y0 y1 yf yz
        obtain ⟨x0, x1, xf, xz⟩ := HX13.out.v2
        obtain ⟨y0, y1, yf, yz⟩ := HY13.out.v2
        go_wp2_with fail
        refine (states30_bad a5 c5 _ _ _ HE0.out).mono ?_
        rintro e14 w14 ⟨rfl, hb⟩
        have HB14 := Lib.hid (HB13.out.trans (hb.mono HB13.out.size))
        have HX14 := Lib.hid (HX13.out.later hb)
        have HY14 := Lib.hid (HY13.out.later hb)
        clear hb x0 x1 xf xz y0 y1 yf yz
        obtain ⟨x0, x1, xf, xz⟩ := HX14.out.v2
        obtain ⟨y0, y1, yf, yz⟩ := HY14.out.v2
        go_wp2_with fail
        go_ret
        exact ⟨rfl, HB14.out⟩
      subst h1
      rw [if_neg (show ¬ (0 : Int) ≠ 0 by simp)] at hE
      have hok := HOK.out rfl
      have C29 := Lib.hid (fun (w1 : World) (hb : Below w.heap.size w w1) => C29.out w1 hb hok.ins hok.len)
      have C31 := Lib.hid (fun (w1 : World) (hb : Below w.heap.size w w1) => C31.out w1 hb hok.ins hok.len hok.ok.pos)
      clear hok HOK
      cases qn with
      | true =>
        rw [if_neg (by simp)] at hE
        subst hE
        by_cases h1 : sl = 0
        rotate_left
        · have HE0 := Lib.hid h1
          have k0 : (sl == 0) = false := beq_eq_false_iff_ne.2 h1
          have k1 : (sl != 0) = true := by simpa using h1
          clear h1 C31
          go_wp2_with fail
          refine (C26.out _ HB5.out).mono ?_
          intro e15 w15 hh
          obtain ⟨a5, c5, rfl, hb⟩ := hh.bad HE0.out
          clear hh
          have HB15 := Lib.hid (HB5.out.trans (hb.mono HB5.out.size))
          have HX15 := Lib.hid (HX5.out.later hb)
          have HY15 := Lib.hid (HY5.out.later hb)
          clear hb x0 x1 xf xz y0 y1 yf yz
          obtain ⟨x0, x1, xf, xz⟩ := HX15.out.v2
          obtain ⟨y0, y1, yf, yz⟩ := HY15.out.v2
          go_wp2_with fail
          refine (C27.out _ HB15.out).mono ?_
          rintro e16 w16 ⟨rfl, hb⟩
          have HB16 := Lib.hid (HB15.out.trans (hb.mono HB15.out.size))
          have HX16 := Lib.hid (HX15.out.later hb)
          have HY16 := Lib.hid (HY15.out.later hb)
          clear hb x0 x1 xf xz y0 y1 yf yz
          obtain ⟨x0, x1, xf, xz⟩ := HX16.out.v2
          obtain ⟨y0, y1, yf, yz⟩ := HY16.out.v2
          go_wp2_with fail
          refine (C22.out _ HB16.out).mono ?_
          rintro e17 w17 ⟨rfl, hb⟩
          have HB17 := Lib.hid (HB16.out.trans (hb.mono HB16.out.size))
          have HX17 := Lib.hid (HX16.out.later hb)
          have HY17 := Lib.hid (HY16.out.later hb)
          clear hb x0 x1 xf xz y0 y1 yf yz
          obtain ⟨x0, x1, xf, xz⟩ := HX17.out.v2
          obtain ⟨y0, y1, yf, yz⟩ := HY17.out.v2
          go_wp2_with fail
          refine (C28.out _).mono ?_
          rintro ex17 wx17 ⟨rfl, rfl⟩
          go_wp2_with fail
          refine (C29.out _ HB17.out).mono ?_
          rintro e18 w18 ⟨rfl, hb⟩
          have HB18 := Lib.hid (HB17.out.trans (hb.mono HB17.out.size))
          have HX18 := Lib.hid (HX17.out.later hb)
          have HY18 := Lib.hid (HY17.out.later hb)
          clear hb x0 x1 xf xz y0 y1 yf yz
          obtain ⟨x0, x1, xf, xz⟩ := HX18.out.v2
          obtain ⟨y0, y1, yf, yz⟩ := HY18.out.v2
          go_wp2_with fail
          refine (states30_bad a5 c5 _ _ _ HE0.out).mono ?_
          rintro e19 w19 ⟨rfl, hb⟩
          have HB19 := Lib.hid (HB18.out.trans (hb.mono HB18.out.size))
          have HX19 := Lib.hid (HX18.out.later hb)
          have HY19 := Lib.hid (HY18.out.later hb)
          clear hb x0 x1 xf xz y0 y1 yf yz
          obtain ⟨x0, x1, xf, xz⟩ := HX19.out.v2
          obtain ⟨y0, y1, yf, yz⟩ := HY19.out.v2
          go_wp2_with fail
          go_ret
          exact ⟨rfl, HB19.out⟩
        subst h1
        go_wp2_with fail
        refine (C26.out _ HB5.out).mono ?_
        intro e20 w20 hh
        obtain ⟨v5, rfl, hs5, hb⟩ := hh.good HTL.out
        have HS5 := Lib.hid hs5
        obtain ⟨a5, c5, rfl, _, _⟩ := hs5
        clear hh
        have HB20 := Lib.hid (HB5.out.trans (hb.mono HB5.out.size))
        have HX20 := Lib.hid (HX5.out.later hb)
        have HY20 := Lib.hid (HY5.out.later hb)
        clear hb x0 x1 xf xz y0 y1 yf yz
        obtain ⟨x0, x1, xf, xz⟩ := HX20.out.v2
        obtain ⟨y0, y1, yf, yz⟩ := HY20.out.v2
        obtain ⟨tl, htl⟩ : ∃ n, (startTo p l gn st l.length).length = n := ⟨_, rfl⟩
        rw [htl] at HS5 ⊢
        clear htl
        go_wp2_with fail
        refine (C27.out _ HB20.out).mono ?_
        rintro e21 w21 ⟨rfl, hb⟩
        have HB21 := Lib.hid (HB20.out.trans (hb.mono HB20.out.size))
        have HX21 := Lib.hid (HX20.out.later hb)
        have HY21 := Lib.hid (HY20.out.later hb)
        have HS5n := Lib.hid (HS5.out.later hb)
        clear HS5
        have HS5 := HS5n
        clear HS5n
        clear hb x0 x1 xf xz y0 y1 yf yz
        obtain ⟨x0, x1, xf, xz⟩ := HX21.out.v2
        obtain ⟨y0, y1, yf, yz⟩ := HY21.out.v2
        go_wp2_with fail
        refine (C22.out _ HB21.out).mono ?_
        rintro e22 w22 ⟨rfl, hb⟩
        have HB22 := Lib.hid (HB21.out.trans (hb.mono HB21.out.size))
        have HX22 := Lib.hid (HX21.out.later hb)
        have HY22 := Lib.hid (HY21.out.later hb)
        have HS5n := Lib.hid (HS5.out.later hb)
        clear HS5
        have HS5 := HS5n
        clear HS5n
        clear hb x0 x1 xf xz y0 y1 yf yz
        obtain ⟨x0, x1, xf, xz⟩ := HX22.out.v2
        obtain ⟨y0, y1, yf, yz⟩ := HY22.out.v2
        go_wp2_with fail
        refine (C28.out _).mono ?_
        rintro ex22 wx22 ⟨rfl, rfl⟩
        go_wp2_with fail
        refine (C29.out _ HB22.out).mono ?_
        rintro e23 w23 ⟨rfl, hb⟩
        have HB23 := Lib.hid (HB22.out.trans (hb.mono HB22.out.size))
        have HX23 := Lib.hid (HX22.out.later hb)
        have HY23 := Lib.hid (HY22.out.later hb)
        have HS5n := Lib.hid (HS5.out.later hb)
        clear HS5
        have HS5 := HS5n
        clear HS5n
        clear hb x0 x1 xf xz y0 y1 yf yz
        obtain ⟨x0, x1, xf, xz⟩ := HX23.out.v2
        obtain ⟨y0, y1, yf, yz⟩ := HY23.out.v2
        go_wp2_with fail
        refine (C31.out _ HB23.out).mono ?_
        intro e24 w24 hh
        obtain ⟨v6, rfl, hs6, hb⟩ := hh.good HTL.out
        have HS6 := Lib.hid hs6
        clear hh hs6
        have HB24 := Lib.hid (HB23.out.trans (hb.mono HB23.out.size))
        have HX24 := Lib.hid (HX23.out.later hb)
        have HY24 := Lib.hid (HY23.out.later hb)
        have HS5n := Lib.hid (HS5.out.later hb)
        clear HS5
        have HS5 := HS5n
        clear HS5n
        clear hb x0 x1 xf xz y0 y1 yf yz
        obtain ⟨x0, x1, xf, xz⟩ := HX24.out.v2
        obtain ⟨y0, y1, yf, yz⟩ := HY24.out.v2
        go_wp2_with fail
        refine (states30_good _ _ _ _ HS5.out HS6.out).mono ?_
        rintro e25 w25 ⟨rfl, hb⟩
        have HB25 := Lib.hid (HB24.out.trans (hb.mono HB24.out.size))
        have HX25 := Lib.hid (HX24.out.later hb)
        have HY25 := Lib.hid (HY24.out.later hb)
        clear hb x0 x1 xf xz y0 y1 yf yz
        obtain ⟨x0, x1, xf, xz⟩ := HX25.out.v2
        obtain ⟨y0, y1, yf, yz⟩ := HY25.out.v2
        go_wp2_with fail
        go_ret
        exact ⟨rfl, HB25.out⟩
      | false =>
        rw [if_pos rfl] at hE
        subst hE
        have HE0 := Lib.hid (show (8 : Int) ≠ 0 by decide)
        clear C29 C31
        go_wp2_with fail
        refine (C26.out _ HB5.out).mono ?_
        intro e26 w26 hh
        obtain ⟨a5, c5, rfl, hb⟩ := hh.bad HE0.out
        clear hh
        have HB26 := Lib.hid (HB5.out.trans (hb.mono HB5.out.size))
        have HX26 := Lib.hid (HX5.out.later hb)
        have HY26 := Lib.hid (HY5.out.later hb)
        clear hb x0 x1 xf xz y0 y1 yf yz
        obtain ⟨x0, x1, xf, xz⟩ := HX26.out.v2
        obtain ⟨y0, y1, yf, yz⟩ := HY26.out.v2
        go_wp2_with fail
        refine (C27.out _ HB26.out).mono ?_
        rintro e27 w27 ⟨rfl, hb⟩
        have HB27 := Lib.hid (HB26.out.trans (hb.mono HB26.out.size))
        have HX27 := Lib.hid (HX26.out.later hb)
        have HY27 := Lib.hid (HY26.out.later hb)
        clear hb x0 x1 xf xz y0 y1 yf yz
        obtain ⟨x0, x1, xf, xz⟩ := HX27.out.v2
        obtain ⟨y0, y1, yf, yz⟩ := HY27.out.v2
        go_wp2_with fail
        refine (C22.out _ HB27.out).mono ?_
        rintro e28 w28 ⟨rfl, hb⟩
        have HB28 := Lib.hid (HB27.out.trans (hb.mono HB27.out.size))
        have HX28 := Lib.hid (HX27.out.later hb)
        have HY28 := Lib.hid (HY27.out.later hb)
        clear hb x0 x1 xf xz y0 y1 yf yz
        obtain ⟨x0, x1, xf, xz⟩ := HX28.out.v2
        obtain ⟨y0, y1, yf, yz⟩ := HY28.out.v2
        go_wp2_with fail
        refine (C28.out _).mono ?_
        rintro ex28 wx28 ⟨rfl, rfl⟩
        go_wp2_with fail
        refine (states30_bad a5 c5 _ _ _ HE0.out).mono ?_
        rintro e29 w29 ⟨rfl, hb⟩
        have HB29 := Lib.hid (HB28.out.trans (hb.mono HB28.out.size))
        have HX29 := Lib.hid (HX28.out.later hb)
        have HY29 := Lib.hid (HY28.out.later hb)
        clear hb x0 x1 xf xz y0 y1 yf yz
        obtain ⟨x0, x1, xf, xz⟩ := HX29.out.v2
        obtain ⟨y0, y1, yf, yz⟩ := HY29.out.v2
        go_wp2_with fail
        go_ret
        exact ⟨rfl, HB29.out⟩
end Go.Proofs.YtahpdkkpnkhnhaaGreatDoor

/- What the rows of the laws on states need: states of whatever length, and what is asked, opened. -/
namespace Go.Proofs.YtahpdkkpnkhnhaaGreatDoor
open Go Go.Proofs Go.RowKit Go.ChangeShapes Go.WideShapes Go.ChangeAt Go.Joins Go.Deep

section
variable {H : Type} {enc : TypeId × Value → H} {W W' : World}
/-- A list of n elements, each known by its cells: of whatever length. -/
theorem sl_makeL {α : Type} (f : α → List Value) (sz : Nat) (hsz : 0 < sz) (hf : ∀ x, (f x).length = sz) {n c : Nat} {a : Addr} (hn : n ≤ 9223372036854775807) (hc : n ≤ c) (x0 : α)
    (Q : α → Prop) (hx : ∀ i, i < n → ∃ x : α, (∀ j u, (f x)[j]? = some u → W.cell? (a.add (i * sz + j)) = some u) ∧ Q x) :
    ∃ l : List α, l.length = n ∧ SlL f sz W W.heap.size (.slice (some a) n c) l ∧ ∀ x ∈ l, Q x := by
  have hch : ∃ g : Nat → α, ∀ i, i < n → (∀ j u, (f (g i))[j]? = some u → W.cell? (a.add (i * sz + j)) = some u) ∧ Q (g i) := by
    refine ⟨fun i => if h : i < n then Classical.choose (hx i h) else x0, fun i hi => ?_⟩
    simp only [dif_pos hi]
    exact Classical.choose_spec (hx i hi)
  obtain ⟨g, hg⟩ := hch
  have hl : ((List.range n).map g).length = n := by simp
  refine ⟨(List.range n).map g, hl, ⟨some a, c, by rw [hl], by rw [hl]; exact ⟨hn, hc⟩, fun h0 => ?_⟩, fun x hx => ?_⟩
  · rw [hl] at h0
    have hne : (f (g 0)) ≠ [] := by intro e; have := hf (g 0); rw [e] at this; simp at this; omega
    obtain ⟨u0, us, e0⟩ := List.exists_cons_of_ne_nil hne
    have h00 := (hg 0 h0).1 0 u0 (by rw [e0]; rfl)
    obtain ⟨b, off, spot⟩ := a
    have hs2 : spot = none := by simpa [Addr.add] using World.cell?_spot h00
    subst hs2
    refine ⟨b, off, rfl, by simpa [Addr.add] using World.block_lt_of_cell? _ _ h00, fun i hi j u hu => ?_⟩
    have := (hg i (by rw [hl] at hi; exact hi)).1 j u (by simpa using hu)
    rw [add_at] at this
    rw [Nat.add_assoc]; exact this
  · simp only [List.mem_map, List.mem_range] at hx
    obtain ⟨i, hi, rfl⟩ := hx
    exact (hg i hi).2
theorem sl_openL {α : Type} {t e : TypeId} (f : α → List Value) (sz : Nat) (ht : Tryz.prog.underlying t = some (.slice e)) (hsz : 0 < sz) (hce : Tryz.prog.cellsOf e = sz) (hf : ∀ x, (f x).length = sz) (x0 : α) (Q : α → Prop)
    (hel : ∀ {fuel : Nat} {cs : List Value} {x : DataW H × List MemPlace}, DataW.trod enc Tryz.prog W 0 (fun _ => true) true fuel e cs = some x → ∃ y : α, cs = f y ∧ Q y)
    {fuel n c : Nat} {a : Option Addr} {x : DataW H × List MemPlace} (h : DataW.trod enc Tryz.prog W 0 (fun _ => true) true fuel t [.slice a n c] = some x) :
    ∃ l, l.length = n ∧ SlL f sz W W.heap.size (.slice a n c) l ∧ ∀ y ∈ l, Q y := by
  rcases open_slice ht h with ⟨hcs, _⟩ | ⟨a', len, cap, m, k, D, Pl, hcs, _, hl, hm, hz, _, hcell⟩
  · simp at hcs
    obtain ⟨rfl, rfl, rfl⟩ := hcs
    exact ⟨[], rfl, ⟨none, 0, rfl, by simp, fun h => absurd h (by simp)⟩, by simp⟩
  · simp at hcs
    obtain ⟨rfl, rfl, rfl⟩ := hcs
    simp only [if_true] at hz
    subst hz
    rw [hce] at hcell
    refine sl_makeL f sz hsz hf (by unfold maxLen at hm; omega) hl x0 Q (fun i hi => ?_)
    obtain ⟨cs', h0, h1⟩ := hcell i (by omega)
    obtain ⟨y, rfl, hy⟩ := hel h1
    obtain ⟨_, hcl, hat⟩ := World.cells?_some h0
    refine ⟨y, fun j u hu => ?_, hy⟩
    have hj : j < sz := by have := (List.getElem?_eq_some_iff.1 hu).1; rwa [hf] at this
    rw [← Go.Deep.add_add, hat j hj, hu]
set_option maxRecDepth 100000 in
theorem sx_open {fuel : Nat} {cs : List Value} {x : DataW H × List MemPlace} (h : DataW.trod enc Tryz.prog W 0 (fun _ => true) true fuel 100 cs = some x) : ∃ m : Sx, cs = Sx.enc m ∧ m.grain.size ≤ 9223372036854775807 := by
  obtain ⟨xs, n, _, _, hl, hx, hf⟩ := DataW.trod_struct Tryz.underlying100 h
  rw [show Tryz.prog.cellsOf 100 = 3 from by kernel_rfl] at hl
  match cs, hl with
  | [c0, c1, c2], _ =>
    have f0 : DataW.trod enc Tryz.prog W 0 (fun _ => true) true n 4 (([c0, c1, c2].drop 0).take (Tryz.prog.cellsOf 4)) = xs[0]? := hf 0 _ rfl
    have f1 : DataW.trod enc Tryz.prog W 0 (fun _ => true) true n 3 (([c0, c1, c2].drop 1).take (Tryz.prog.cellsOf 3)) = xs[1]? := hf 1 _ rfl
    have f2 : DataW.trod enc Tryz.prog W 0 (fun _ => true) true n 9 (([c0, c1, c2].drop 2).take (Tryz.prog.cellsOf 9)) = xs[2]? := hf 2 _ rfl
    have hx2 : xs.length = 3 := hx
    rw [List.getElem?_eq_getElem (show 0 < xs.length by omega), show Tryz.prog.cellsOf 4 = 1 from by kernel_rfl] at f0
    rw [List.getElem?_eq_getElem (show 1 < xs.length by omega), show Tryz.prog.cellsOf 3 = 1 from by kernel_rfl] at f1
    rw [List.getElem?_eq_getElem (show 2 < xs.length by omega), show Tryz.prog.cellsOf 9 = 1 from by kernel_rfl] at f2
    obtain ⟨r, e0, _⟩ := DataW.trod_bool Tryz.underlying4 f0
    obtain ⟨a, e1, _, w1⟩ := DataW.trod_int Tryz.underlying3 f1
    obtain ⟨s, e2, _, hs⟩ := DataW.trod_string Tryz.underlying9 f2
    simp at e0 e1 e2
    subst e0 e1 e2
    exact ⟨⟨r, a, s⟩, rfl, hs⟩
/-- A state by value. -/
theorem st_open {n c : Nat} {a : Option Addr} {d : DataW H} {p : List MemPlace} (h : DataW.Trod enc Tryz.prog W 0 (fun _ => true) true 39 (.slice a n c) d p) :
    ∃ st : List Sx, SlL Sx.enc 3 W W.heap.size (.slice a n c) st ∧ SzR st := by
  obtain ⟨fuel, hf⟩ := h
  obtain ⟨l, _, h2, h3⟩ := sl_openL Sx.enc 3 Tryz.underlying39 (by omega) (by kernel_rfl) Sx.enc_len s0 _ sx_open hf
  exact ⟨l, h2, h3⟩
set_option maxRecDepth 100000 in
/-- A path and a grain by value. -/
theorem ask_open {r : Reach} {b0 : Nat} {v : Value} {d : DataW H} {p : List MemPlace} (hv : Value.okWide Tryz.prog W r b0 41 v) (h : DataW.Trod enc Tryz.prog W 0 (fun _ => true) true 41 v d p) :
    ∃ a n c g, v = .agg #[.slice a n c, .string g] ∧ n ≤ 9223372036854775807 ∧ g.size ≤ 9223372036854775807 ∧ ∃ l, n ≤ 80 → Sl encI 1 W W.heap.size (.slice a n c) l := by
  obtain ⟨v0, v1, y0, y1, n, rfl, _, _, h0, h1⟩ := open_agg2 Tryz.underlying41 (by kernel_rfl) (by kernel_rfl) hv h
  obtain ⟨a1, n1, c1, e1⟩ := slice_form Tryz.underlying26 h0
  cases e1
  obtain ⟨k1, k2⟩ := sl_ints h0
  obtain ⟨s, e2, _, hs⟩ := DataW.trod_string Tryz.underlying9 h1
  cases e2
  refine ⟨a1, n1, c1, s, rfl, k1, hs, ?_⟩
  by_cases h8 : n1 ≤ 80
  · obtain ⟨l, _, h2, _⟩ := k2 (by omega)
    exact ⟨l, fun _ => h2⟩
  · exact ⟨[], fun h => absurd h h8⟩
end
end Go.Proofs.YtahpdkkpnkhnhaaGreatDoor

/- Walks: whether a path is set, and whether it runs, in the reference. -/
namespace Go.Proofs.YtahpdkkpnkhnhaaGreatDoor
open Go Go.Proofs Go.RowKit Go.Shelf

set_option maxRecDepth 100000 in
set_option maxHeartbeats 1000000 in
theorem isSet47 (w : World) (u x : Value) (st : List Sx) (l : List Int) (hu : Sl Sx.enc 3 w w.heap.size u st) (hx : Sl encI 1 w w.heap.size x l) (hin : ∀ y ∈ l, inN st.length y = true) : Calls Tryz.prog 47 #[u, x] w (Ret (.bool (setB st l)) w) := by
  obtain ⟨a1, n1, rfl, hl1, hA1⟩ := hu
  obtain ⟨a, c, rfl, hlen, hA⟩ := hx
  have HA1 := Lib.hid hA1
  have HA := Lib.hid hA
  have HIN := Lib.hid hin
  clear hA1 hA hin
  obtain ⟨h11, h12⟩ := hl1
  obtain ⟨hl, hlc⟩ := hlen
  obtain ⟨R, hR⟩ : ∃ R, setB st l = R := ⟨_, rfl⟩
  rw [hR]
  have HR := Lib.hid hR
  have HRT := Lib.hid (fun (h : ∀ k, k < l.length → setK st l k = true) => show R = true by rw [← hR]; exact (setB_iff st l).2 h)
  clear hR
  obtain ⟨n, hn⟩ : ∃ n, st.length = n := ⟨_, rfl⟩
  obtain ⟨ln, hln⟩ : ∃ m, l.length = m := ⟨_, rfl⟩
  rw [hn] at h11 h12 HIN ⊢
  rw [hln] at hl hlc ⊢
  have HN := Lib.hid hn
  have HLN := Lib.hid hln
  clear hn hln
  go_enter Tryz.func47, Tryz.ntmps47
  go_wp2_with fail
  go_loopw [5] (fun i wr => ∃ j : Nat, (j ≤ ln ∨ j = 1) ∧ 1 ≤ j ∧ i = .int .i64 j ∧ Below w.heap.size w wr ∧ ∀ i, i < j → i < ln → setK st l i = true) (fun i _ => ln - (intOf i).toNat)
  case atStart => exact ⟨1, .inr rfl, by omega, rfl, Below.refl _ _, fun i hi _ => by rw [show i = 0 by omega]; rfl⟩
  case round =>
    obtain ⟨k, hk, hk1, rfl, hbe, hok⟩ := hrel
    have HOK := Lib.hid hok
    have HBE := Lib.hid hbe
    clear hok hbe
    obtain ⟨j, rfl⟩ : ∃ j, k = j + 1 := ⟨k - 1, by omega⟩
    clear hk1
    by_cases hlt : j + 1 < ln
    rotate_left
    · have d0 : decide ((j : Int) + 1 < (ln : Int)) = false := decide_eq_false (by omega)
      have d1 : decide (j + 1 < ln) = false := decide_eq_false (by omega)
      have HV := Lib.hid (HRT.out (fun k hk => HOK.out k (by rw [HLN.out] at hk; omega) (by rw [HLN.out] at hk; exact hk)))
      clear hk
      go_wp2_with fail
      go_ret
      exact ⟨by rw [HV.out]; rfl, HBE.out⟩
    have d0 : decide ((j : Int) + 1 < (ln : Int)) = true := decide_eq_true (by omega)
    have d1 : decide (j + 1 < ln) = true := decide_eq_true (by omega)
    have hkl : j + 1 < l.length := by rw [HLN.out]; exact hlt
    have hjl : j < l.length := by omega
    obtain ⟨b, off, rfl, hbb, hcells⟩ := HA.out (by omega)
    have c0 := ((hcells (j + 1) hkl).below HBE.out hbb).c1
    have c1 := ((hcells j hjl).below HBE.out hbb).c1
    rw [Nat.mul_one] at c0 c1
    obtain ⟨y, hy, hyn⟩ := inN_nat (HIN.out l[j] (List.getElem_mem hjl))
    have hyl : y < st.length := by rw [HN.out]; exact hyn
    obtain ⟨b1, off1, rfl, hbb1, hcells1⟩ := HA1.out (by omega)
    obtain ⟨e0, e1, e2⟩ := ((hcells1 y hyl).below HBE.out hbb1).c3
    rw [hy] at c1
    have HLJ := Lib.hid (show l.getD j 0 = (y : Int) by rw [getD_at l j hjl, hy])
    have HLK := Lib.hid (getD_at l (j + 1) hkl)
    have HST := Lib.hid (stGet hyl)
    have HNO := Lib.hid (fun (h : setK st l (j + 1) = false) => setB_no HR.out hkl h)
    have hbz : b < wr.heap.size := Nat.lt_of_lt_of_le hbb HBE.out.size
    have hb1z : b1 < wr.heap.size := Nat.lt_of_lt_of_le hbb1 HBE.out.size
    have HK := Lib.hid (show setK st l (j + 1) = (st[y].feeds == l[j + 1]) by unfold setK; rw [HLK.out, show j + 1 - 1 = j by omega, HLJ.out, Int.toNat_natCast, HST.out, decide_eq_false (show ¬ j + 1 = 0 by omega), Bool.false_or])
    clear hcells hcells1 hy HLJ HLK HST
    generalize st[y] = sy at *
    generalize l[j + 1] = z at *
    clear hyl hkl hjl
    obtain ⟨runs, feeds, grain⟩ := sy
    dsimp only at e0 e1 e2 HK
    obtain ⟨q, hq⟩ : ∃ q, (feeds == z) = q := ⟨_, rfl⟩
    have hq2 : (feeds != z) = !q := by rw [bne, hq]
    rw [hq] at HK
    clear hk
    cases q with
    | true =>
      go_wp2_with fail
      go_quiet (fail)
      go_wp2_with fail
      go_roundw
      case rel => exact ⟨j + 1 + 1, .inl (by omega), by omega, by go_num, below_drewN HBE.out _, fun i hi hi2 => (Nat.lt_succ_iff_lt_or_eq.1 hi).elim (fun h => HOK.out i h hi2) (fun h => by rw [h]; exact HK.out)⟩
      case measure => simp [intOf]; omega
    | false =>
      have HV := Lib.hid (HNO.out HK.out)
      go_wp2_with fail
      go_quiet (fail)
      go_wp2_with fail
      go_ret
      exact ⟨by rw [HV.out]; rfl, below_drewN HBE.out _⟩

/-- Whether all conveyors of a path run. -/
def runK (p : Pl) (st : List Sx) (m : Int) : Bool := !(cvB (kdA p m) && !(st.getD m.toNat s0).runs)
def runsB (p : Pl) (st : List Sx) (l : List Int) : Bool := l.all (runK p st)
set_option maxRecDepth 100000 in
set_option maxHeartbeats 1000000 in
theorem runs50 (w : World) (v1 v2 u y : Value) (p : Pl) (st : List Sx) (l : List Int) (hv : PlR w w.heap.size v1 v2 p) (hu : Sl Sx.enc 3 w w.heap.size u st) (hx : Sl encI 1 w w.heap.size y l) (hin : ∀ y ∈ l, inN p.ms.length y = true) (hln : st.length = p.ms.length) : Calls Tryz.prog 50 #[.agg #[v1, v2], u, y] w (Ret (.bool (runsB p st l)) w) := by
  obtain ⟨⟨a1, n1, rfl, hl1, hA1⟩, ⟨a2, n2, rfl, hl2, hA2⟩⟩ := hv
  obtain ⟨a, c, rfl, hlen, hA⟩ := hx
  obtain ⟨a3, n3, rfl, hl3, hA3⟩ := hu
  have HA1 := Lib.hid hA1
  have HA := Lib.hid hA
  have HA3 := Lib.hid hA3
  have HIN := Lib.hid hin
  clear hA1 hA2 hA hl2 hA3 hin
  obtain ⟨h11, h12⟩ := hl1
  obtain ⟨h31, h32⟩ := hl3
  obtain ⟨hl, hlc⟩ := hlen
  have HB := Lib.hid ((Below.refl w.heap.size w).alloc (Nat.le_refl _) (.cells #[.slice a1 p.ms.length n1, .slice a2 p.arcs.length n2] 25))
  have HX := Lib.hid (Box.new w #[.slice a1 p.ms.length n1, .slice a2 p.arcs.length n2] 25)
  obtain ⟨R, hR⟩ : ∃ R, runsB p st l = R := ⟨_, rfl⟩
  rw [hR]
  have HR := Lib.hid (show (l.drop 0).all (runK p st) = R from hR)
  clear hR
  obtain ⟨n, hn⟩ : ∃ n, p.ms.length = n := ⟨_, rfl⟩
  obtain ⟨m, hm⟩ : ∃ m, p.arcs.length = m := ⟨_, rfl⟩
  obtain ⟨ln, hll⟩ : ∃ m, l.length = m := ⟨_, rfl⟩
  rw [hn] at HB HX h11 h12 hln HIN ⊢
  rw [hm] at HB HX ⊢
  rw [hll] at hl hlc ⊢
  rw [hln] at h31 h32 ⊢
  have HN := Lib.hid hn
  have HLN := Lib.hid hll
  have HSN := Lib.hid hln
  clear hn hm hll hln
  go_enter Tryz.func50, Tryz.ntmps50
  go_wp2_with fail
  go_loopw [7] (fun i wr => ∃ k : Nat, k ≤ ln ∧ i = .int .i64 k ∧ Below w.heap.size w wr ∧ Box wr w.heap.size 25 [.slice a1 n n1, .slice a2 m n2] ∧ (l.drop k).all (runK p st) = R) (fun i _ => ln - (intOf i).toNat)
  case atStart => exact ⟨0, by omega, rfl, HB.out, HX.out, HR.out⟩
  case round =>
    clear HB HX HR
    obtain ⟨k, hk, rfl, hbe, hx, hrel⟩ := hrel
    have HL := Lib.hid hrel
    have HBE := Lib.hid hbe
    have HXE := Lib.hid hx
    clear hrel hbe hx
    by_cases hlt : k < ln
    rotate_left
    · obtain rfl : ln = k := by omega
      have HV := Lib.hid (show R = true by rw [← HL.out, ← HLN.out, List.drop_length]; rfl)
      go_wp2_with fail
      go_ret
      exact ⟨by rw [HV.out]; rfl, HBE.out⟩
    have hkl : k < l.length := by rw [HLN.out]; exact hlt
    obtain ⟨b, off, rfl, hbb, hcells⟩ := HA.out (by omega)
    have c0 := ((hcells k hkl).below HBE.out hbb).c1
    rw [Nat.mul_one] at c0
    have hbz : b < wr.heap.size := Nat.lt_of_lt_of_le hbb HBE.out.size
    obtain ⟨x, hy, hxn⟩ := inN_nat (HIN.out l[k] (List.getElem_mem hkl))
    rw [hy] at c0
    have hxl : x < p.ms.length := by rw [HN.out]; exact hxn
    have hxs : x < st.length := by rw [HSN.out]; exact hxn
    obtain ⟨b1, off1, rfl, hbb1, hcells1⟩ := HA1.out (by omega)
    obtain ⟨b3, off3, rfl, hbb3, hcells3⟩ := HA3.out (by omega)
    obtain ⟨m0, m1⟩ := ((hcells1 x hxl).below HBE.out hbb1).c2
    obtain ⟨d0, d1, d2⟩ := ((hcells3 x hxs).below HBE.out hbb3).c3
    have HKD := Lib.hid (kdA_nat hxl)
    have HGS := Lib.hid (stGet hxs)
    have HD := Lib.hid (show (runK p st (x : Int) && (l.drop (k + 1)).all (runK p st)) = R by
      have h := HL.out
      rw [List.drop_eq_getElem_cons hkl, List.all_cons, hy] at h
      exact h)
    have HRK := Lib.hid (show runK p st (x : Int) = !(cvB (kdA p x) && !(st.getD x s0).runs) from rfl)
    rw [HGS.out, HKD.out] at HRK
    rw [HRK.out] at HD
    clear hcells hcells1 hcells3 hy hkl HKD HGS HRK
    generalize p.ms[x] = mx at *
    generalize st[x] = sx at *
    clear hxl hxs
    obtain ⟨sm, tm⟩ := mx
    obtain ⟨rn, fd, gr⟩ := sx
    dsimp only at HD d0 d1 d2 m0 m1
    have hb1z : b1 < wr.heap.size := Nat.lt_of_lt_of_le hbb1 HBE.out.size
    have hb3z : b3 < wr.heap.size := Nat.lt_of_lt_of_le hbb3 HBE.out.size
    obtain ⟨x0, x1, xf, xz⟩ := HXE.out.v2
    have HK42 := Lib.hid (fun w1 => isConveyor42 sm w1)
    obtain ⟨qc, hqc⟩ : ∃ q, cvB sm = q := ⟨_, rfl⟩
    rw [hqc] at HK42 HD
    clear hqc
    have HK := Lib.hid (fun (X : Later wr) => HK42.out X.w)
    cases qc with
    | false =>
      have HV := Lib.hid (show (l.drop (k + 1)).all (runK p st) = R by rw [← HD.out]; rfl)
      go_wp2_with fail
      refine wp_region_later (by kernel_rfl) (by kernel_rfl) ?_
      repeat go_big_quiet_step ((go_at_call 42; exact Calls.later_same (HK.out _)))
      refine wpQuiet_nil ?_
      rintro w3 ⟨⟨_, hb3⟩, rfl⟩
      go_wp2_with fail
      go_roundw
      case rel => exact ⟨k + 1, by omega, by go_num, HBE.out.trans (hb3.mono HBE.out.size), HXE.out.later hb3, HV.out⟩
      case measure => simp [intOf]; omega
    | true =>
    cases rn with
    | true =>
      have HV := Lib.hid (show (l.drop (k + 1)).all (runK p st) = R by rw [← HD.out]; rfl)
      go_wp2_with fail
      refine wp_region_later (by kernel_rfl) (by kernel_rfl) ?_
      repeat go_big_quiet_step ((go_at_call 42; exact Calls.later_same (HK.out _)))
      refine wpQuiet_nil ?_
      rintro w3 ⟨⟨_, hb3⟩, rfl⟩
      go_wp2_with fail
      go_roundw
      case rel => exact ⟨k + 1, by omega, by go_num, HBE.out.trans (hb3.mono HBE.out.size), HXE.out.later hb3, HV.out⟩
      case measure => simp [intOf]; omega
    | false =>
      have HV := Lib.hid (show R = false by rw [← HD.out]; rfl)
      go_wp2_with fail
      refine wp_region_later (by kernel_rfl) (by kernel_rfl) ?_
      repeat go_big_quiet_step ((go_at_call 42; exact Calls.later_same (HK.out _)))
      refine wpQuiet_nil ?_
      rintro w3 ⟨⟨_, hb3⟩, rfl⟩
      go_wp2_with fail
      go_ret
      exact ⟨by rw [HV.out]; rfl, HBE.out.trans (hb3.mono HBE.out.size)⟩
end Go.Proofs.YtahpdkkpnkhnhaaGreatDoor

/- Walks: Stop and Resume of the reference. -/
namespace Go.Proofs.YtahpdkkpnkhnhaaGreatDoor
open Go Go.Proofs Go.RowKit Go.Shelf

theorem getD_set (L : List Sx) (i x : Nat) (v : Sx) : (L.set i v).getD x s0 = if i = x ∧ i < L.length then v else L.getD x s0 := by
  rw [List.getD_eq_getElem?_getD, List.getElem?_set, List.getD_eq_getElem?_getD]
  by_cases h : i = x
  · subst h
    by_cases h2 : i < L.length
    · simp [h2]
    · simp [h2]
  · simp [h]
theorem stopTo_runs {p : Pl} {l : List Int} {cl : Bool} {st : List Sx} (h : ∀ x : Nat, cvB (kdA p x) = false → (st.getD x s0).runs = false) : ∀ (k x : Nat), cvB (kdA p x) = false → ((stopTo p l cl st k).getD x s0).runs = false
  | 0, x, hx => h x hx
  | k + 1, x, hx => by
    have ih := stopTo_runs (l := l) (cl := cl) h k x hx
    rw [stopTo, getD_set]
    split
    · rename_i h1
      unfold stopV
      dsimp only
      split
      · rfl
      · rw [h1.1]; exact ih
    · exact ih
theorem runs_none {p : Pl} {st : List Sx} (h : ckState p st = 0) (x : Nat) (hx : cvB (kdA p x) = false) : (st.getD x s0).runs = false := by
  obtain ⟨_, _, h3, _⟩ := ckState_ok h
  by_cases hl : x < st.length
  · rw [stGet hl]
    have h4 := ckStL_ok h3 x hl
    rw [Nat.zero_add] at h4
    cases hr : st[x].runs with
    | false => rfl
    | true => rw [(stE_ok h4).1 hr] at hx; cases hx
  · rw [List.getD_eq_getElem?_getD, List.getElem?_eq_none (by omega)]; rfl
set_option maxRecDepth 100000 in
set_option maxHeartbeats 1000000 in
theorem stop48 (w : World) (v1 v2 u y : Value) (cl : Bool) (p : Pl) (st : List Sx) (l : List Int) (hv : PlR w w.heap.size v1 v2 p) (hu : Sl Sx.enc 3 w w.heap.size u st) (hx : Sl encI 1 w w.heap.size y l) (hin : ∀ y ∈ l, inN p.ms.length y = true) (hln : st.length = p.ms.length) (hpos : 0 < p.ms.length) (hrn : ∀ x : Nat, cvB (kdA p x) = false → (st.getD x s0).runs = false) : Calls Tryz.prog 48 #[.agg #[v1, v2], u, y, .bool cl] w (StatePost w (stopTo p l cl st l.length)) := by
  have HRN := Lib.hid (stopTo_runs (l := l) (cl := cl) hrn)
  clear hrn
  obtain ⟨⟨a1, n1, rfl, hl1, hA1⟩, ⟨a2, n2, rfl, hl2, hA2⟩⟩ := hv
  obtain ⟨a, c, rfl, hlen, hA⟩ := hx
  obtain ⟨a3, n3, rfl, hl3, hA3⟩ := hu
  obtain ⟨b3, off3, e3, hbb3, hcells3⟩ := hA3 (by omega)
  obtain ⟨q3, hq3⟩ : ∃ q, (⟨b3, off3, none⟩ : Addr) = q := ⟨_, rfl⟩
  rw [hq3] at e3
  subst e3
  have HA1 := Lib.hid hA1
  have HA := Lib.hid hA
  have HIN := Lib.hid hin
  clear hA1 hA2 hA hl2 hin hA3
  obtain ⟨h11, h12⟩ := hl1
  obtain ⟨hl, hlc⟩ := hlen
  obtain ⟨h31, h32⟩ := hl3
  have HB := Lib.hid ((Below.refl w.heap.size w).alloc (Nat.le_refl _) (.cells #[.slice a1 p.ms.length n1, .slice a2 p.arcs.length n2] 25))
  have HX := Lib.hid (Box.new w #[.slice a1 p.ms.length n1, .slice a2 p.arcs.length n2] 25)
  obtain ⟨n, hn⟩ : ∃ n, p.ms.length = n := ⟨_, rfl⟩
  obtain ⟨m, hm⟩ : ∃ m, p.arcs.length = m := ⟨_, rfl⟩
  obtain ⟨ln, hll⟩ : ∃ m, l.length = m := ⟨_, rfl⟩
  rw [hn] at HB HX h11 h12 HIN hln hpos ⊢
  rw [hm] at HB HX ⊢
  rw [hll] at hl hlc ⊢
  have HN := Lib.hid hn
  have HLN := Lib.hid hll
  have HST := Lib.hid (fun k => (stopTo_len p l cl st k).trans hln)
  obtain ⟨Q, hQ⟩ : ∃ Q, StatePost w (stopTo p l cl st ln) = Q := ⟨_, rfl⟩
  rw [hQ]
  have HQ : Hid (∀ (v : Value) (w' : World), Own Sx.enc 3 100 w' w.heap.size v (stopTo p l cl st ln) → Below w.heap.size w w' → Q (.returned v) w') := Lib.hid (fun v w' h1 h2 => by rw [← hQ]; exact ⟨v, rfl, h1, h2⟩)
  clear hQ hn hm hll
  have HBa := Lib.hid ((Below.refl (w.alloc (.cells #[.slice a1 n n1, .slice a2 m n2] 25)).heap.size (w.alloc (.cells #[.slice a1 n n1, .slice a2 m n2] 25))).alloc (Nat.le_refl _) (.cells #[] 100))
  have HAT := Lib.hid (show ∀ i (h : i < st.length), ∀ j u, (Sx.enc st[i])[j]? = some u → ((w.alloc (.cells #[.slice a1 n n1, .slice a2 m n2] 25)).alloc (.cells #[] 100)).cell? (q3.add (i * 3 + j)) = some u from by
    intro i h j u hu
    subst hq3
    have h1 := ((hcells3 i h).below (HB.out.trans (HBa.out.mono HB.out.size)) hbb3) j u hu
    rw [Addr.add_lit, ← Nat.add_assoc]
    exact h1)
  have hwl := Own.lit (l := []) Sx.enc_len 100 (w.alloc (.cells #[.slice a1 n n1, .slice a2 m n2] 25)) #[] 0 (w.alloc (.cells #[.slice a1 n n1, .slice a2 m n2] 25)).heap.size rfl rfl (by simp) (Nat.le_refl _)
  simp only [World.size_alloc] at hwl
  have HWL := Lib.hid hwl
  have HX2 := Lib.hid (HX.out.alloc (.cells #[] 100))
  have hsl : st.length ≤ 1000000000 := by omega
  clear hcells3 hwl hq3 hbb3
  go_enter Tryz.func48, Tryz.ntmps48
  go_wp2_with (at_builtin; refine wpList_cat Sx.enc 3 32 39 100 _ Tryz.underlying39 infoSx rfl (by decide) (by decide) Sx.enc_len Sx.enc_one [] st (w.heap.size + 1) ((w.alloc (.cells #[.slice a1 n n1, .slice a2 m n2] 25)).alloc (.cells #[] 100)) (.slice (some ⟨w.heap.size + 1, 0, none⟩) 0 0) HWL.out (by simp) (by simp; omega) q3 n3 HAT.out rfl _ _ rfl rfl rfl ?_; intro v' w' hown' hg')
  have hown2 : Own Sx.enc 3 100 w' (w.heap.size + 1) v' st := by simpa using hown'
  have HB2 := Lib.hid ((HB.out.alloc (by simp) (.cells #[] 100)).grown hg' (by simp; omega) fun j hj => by
    have : w.heap.size + 1 = j := Option.some.inj hj
    omega)
  have HX3 := Lib.hid (HX2.out.kept hg' (fun e => by have : w.heap.size = w.heap.size + 1 := Option.some.inj e; omega))
  obtain ⟨g, cap, hvv, hg1, hg2⟩ := hown2.form (by omega)
  rw [hln] at hvv
  subst hvv
  have HO2 := Lib.hid hown2
  have hgw : w.heap.size < g := by omega
  clear hown' hown2 hg' hg1 hg2 HWL HAT HBa HB HX HX2
  go_loopw [11, 10] (fun e11 j wr => ∃ k : Nat, k ≤ ln ∧ j = .int .i64 k ∧ Below w.heap.size w wr ∧ Box wr w.heap.size 25 [.slice a1 n n1, .slice a2 m n2] ∧ Own Sx.enc 3 100 wr (w.heap.size + 1) (.slice (some ⟨g, 0, none⟩) n cap) (stopTo p l cl st k)) (fun _ j _ => ln - (intOf j).toNat)
  case atStart => exact ⟨0, by omega, rfl, HB2.out, HX3.out, HO2.out⟩
  case round =>
    clear HB2 HX3 HO2
    obtain ⟨k, hk, rfl, hbe, hx, hown⟩ := hrel
    have HBE := Lib.hid hbe
    have HXE := Lib.hid hx
    have HOE := Lib.hid hown
    clear hbe hx hown
    by_cases hlt : k < ln
    rotate_left
    · obtain rfl : ln = k := by omega
      go_wp2_with fail
      exact HQ.out _ _ (HOE.out.lower (show w.heap.size ≤ w.heap.size + 1 by omega)) HBE.out
    have hkl : k < l.length := by rw [HLN.out]; exact hlt
    obtain ⟨b, off, rfl, hbb, hcells⟩ := HA.out (by omega)
    have c0 := ((hcells k hkl).below HBE.out hbb).c1
    rw [Nat.mul_one] at c0
    have hbz : b < wr.heap.size := Nat.lt_of_lt_of_le hbb HBE.out.size
    obtain ⟨x, hy, hxn⟩ := inN_nat (HIN.out l[k] (List.getElem_mem hkl))
    rw [hy] at c0
    have HLK := Lib.hid (show l.getD k 0 = (x : Int) by rw [getD_at l k hkl, hy])
    have hxl : x < p.ms.length := by rw [HN.out]; exact hxn
    have HRX := Lib.hid (HRN.out k x)
    obtain ⟨b1, off1, rfl, hbb1, hcells1⟩ := HA1.out (by omega)
    have HCM := Lib.hid (hcells1 x hxl)
    have HKD := Lib.hid (kdA_nat hxl)
    have HSU := Lib.hid (stopTo_succ p l cl st k x HLK.out)
    have HLL := Lib.hid (HST.out k)
    have HSE := Lib.hid (set_self (stopTo p l cl st k) x (by rw [HLL.out]; exact hxn))
    have HCB := Lib.hid hcells
    clear hcells hcells1 hy hkl
    generalize stopTo p l cl st k = L at *
    rw [← HSE.out] at HOE
    unfold stopV at HSU
    rw [HLK.out, HKD.out, HLN.out] at HSU
    rw [HKD.out] at HRX
    generalize p.ms[x] = mx at *
    generalize L.getD x s0 = sx at *
    clear hxl HSE HKD HLK
    obtain ⟨sm, tm⟩ := mx
    obtain ⟨rn, fd, gr⟩ := sx
    dsimp only at HSU HRX
    have HK42 := Lib.hid (fun w1 => isConveyor42 sm w1)
    obtain ⟨qc, hqc⟩ : ∃ q, cvB sm = q := ⟨_, rfl⟩
    rw [hqc] at HK42 HSU HRX
    clear hqc
    have HSN := Lib.hid (show stopTo p l cl st (k + 1) = L.set x ⟨false, if k + 1 < ln then -1 else fd, if (qc && cl) = true then ⟨#[]⟩ else gr⟩ by
      rw [HSU.out]
      cases qc with
      | true => rfl
      | false => rw [HRX.out rfl]; rfl)
    clear HRX HSU
    have HSU := HSN
    clear HSN
    obtain ⟨x0, x1, xf, xz⟩ := HXE.out.v2
    obtain ⟨o0, o1, o2⟩ := (HOE.out.atS HLL.out Sx.enc_len hxn).c3
    have ofz := HOE.out.frozenS HLL.out
    have oz := HOE.out.ltN.2
    obtain ⟨m0, m1⟩ := (HCM.out.below HBE.out hbb1).c2
    have hb1z := Nat.lt_of_lt_of_le hbb1 HBE.out.size
    dsimp only at o0 o1 o2 m0 m1
    have HB4 := Lib.hid (HBE.out.setCell (p := ⟨g, x * 3 + 0, none⟩) (by dsimp only; omega) (.bool false))
    have HX4 := Lib.hid (HXE.out.other (a := ⟨g, x * 3 + 0, none⟩) (.bool false) (by dsimp only; omega))
    have HO4 := Lib.hid (HOE.out.setS HLL.out Sx.enc_len hxn 0 (by omega) (.bool false) ⟨false, fd, gr⟩ rfl)
    simp only [Nat.add_zero] at HB4 HX4 HO4
    obtain ⟨y0, y1, yf, yz⟩ := HX4.out.v2
    obtain ⟨z0, z1, z2⟩ := (HO4.out.atS HLL.out Sx.enc_len hxn).c3
    have zf := HO4.out.frozenS HLL.out
    have zz := HO4.out.ltN.2
    dsimp only at z0 z1 z2
    by_cases hlast : k + 1 < ln
    · have d0 : decide ((k : Int) < (ln : Int) - 1) = true := decide_eq_true (by omega)
      rw [if_pos hlast] at HSU
      have HLA := Lib.hid hlast
      clear hlast
      have HB5 := Lib.hid (HB4.out.setCell (p := ⟨g, x * 3 + 1, none⟩) (by dsimp only; omega) (.int .i64 (-1)))
      have HX5 := Lib.hid (HX4.out.other (a := ⟨g, x * 3 + 1, none⟩) (.int .i64 (-1)) (by dsimp only; omega))
      have HO5 := Lib.hid (HO4.out.setS HLL.out Sx.enc_len hxn 1 (by omega) (.int .i64 (-1)) ⟨false, -1, gr⟩ rfl)
      obtain ⟨y5, y6, y7, y8⟩ := HX5.out.v2
      obtain ⟨m2, m3⟩ := (HCM.out.below HB5.out hbb1).c2
      have hb2z := Nat.lt_of_lt_of_le hbb1 HB5.out.size
      obtain ⟨o3, o4, o5⟩ := (HO5.out.atS HLL.out Sx.enc_len hxn).c3
      have of5 := HO5.out.frozenS HLL.out
      have oz5 := HO5.out.ltN.2
      dsimp only at o3 o4 o5 m2 m3
      cases cl with
      | false =>
        rw [Bool.and_false, if_neg (by simp)] at HSU
        go_wp2_with fail
        go_roundw
        case rel => exact ⟨k + 1, by omega, by go_num, HB5.out, HX5.out, by rw [HSU.out]; exact HO5.out⟩
        case measure => simp [intOf]; omega
      | true =>
      go_wp2_with fail
      refine (HK42.out _).mono ?_
      rintro e6 w6 ⟨rfl, rfl⟩
      cases qc with
      | false =>
        rw [Bool.false_and, if_neg (by simp)] at HSU
        go_wp2_with fail
        go_roundw
        case rel => exact ⟨k + 1, by omega, by go_num, HB5.out, HX5.out, by rw [HSU.out]; exact HO5.out⟩
        case measure => simp [intOf]; omega
      | true =>
      rw [Bool.and_true, if_pos rfl] at HSU
      have HB7 := Lib.hid (HB5.out.setCell (p := ⟨g, x * 3 + 2, none⟩) (by dsimp only; omega) (.string ⟨#[]⟩))
      have HX7 := Lib.hid (HX5.out.other (a := ⟨g, x * 3 + 2, none⟩) (.string ⟨#[]⟩) (by dsimp only; omega))
      have HO7 := Lib.hid (HO5.out.setS HLL.out Sx.enc_len hxn 2 (by omega) (.string ⟨#[]⟩) ⟨false, -1, ⟨#[]⟩⟩ rfl)
      go_wp2_with fail
      go_roundw
      case rel => exact ⟨k + 1, by omega, by go_num, HB7.out, HX7.out, by rw [HSU.out]; exact HO7.out⟩
      case measure => simp [intOf]; omega
    · have d0 : decide ((k : Int) < (ln : Int) - 1) = false := decide_eq_false (by omega)
      rw [if_neg hlast] at HSU
      have HLA := Lib.hid hlast
      clear hlast
      have HB5 := HB4
      have HX5 := HX4
      have HO5 := HO4
      obtain ⟨y5, y6, y7, y8⟩ := HX5.out.v2
      obtain ⟨m2, m3⟩ := (HCM.out.below HB5.out hbb1).c2
      have hb2z := Nat.lt_of_lt_of_le hbb1 HB5.out.size
      obtain ⟨o3, o4, o5⟩ := (HO5.out.atS HLL.out Sx.enc_len hxn).c3
      have of5 := HO5.out.frozenS HLL.out
      have oz5 := HO5.out.ltN.2
      dsimp only at o3 o4 o5 m2 m3
      cases cl with
      | false =>
        rw [Bool.and_false, if_neg (by simp)] at HSU
        go_wp2_with fail
        go_roundw
        case rel => exact ⟨k + 1, by omega, by go_num, HB5.out, HX5.out, by rw [HSU.out]; exact HO5.out⟩
        case measure => simp [intOf]; omega
      | true =>
      go_wp2_with fail
      refine (HK42.out _).mono ?_
      rintro e6 w6 ⟨rfl, rfl⟩
      cases qc with
      | false =>
        rw [Bool.false_and, if_neg (by simp)] at HSU
        go_wp2_with fail
        go_roundw
        case rel => exact ⟨k + 1, by omega, by go_num, HB5.out, HX5.out, by rw [HSU.out]; exact HO5.out⟩
        case measure => simp [intOf]; omega
      | true =>
      rw [Bool.and_true, if_pos rfl] at HSU
      have HB7 := Lib.hid (HB5.out.setCell (p := ⟨g, x * 3 + 2, none⟩) (by dsimp only; omega) (.string ⟨#[]⟩))
      have HX7 := Lib.hid (HX5.out.other (a := ⟨g, x * 3 + 2, none⟩) (.string ⟨#[]⟩) (by dsimp only; omega))
      have HO7 := Lib.hid (HO5.out.setS HLL.out Sx.enc_len hxn 2 (by omega) (.string ⟨#[]⟩) ⟨false, fd, ⟨#[]⟩⟩ rfl)
      go_wp2_with fail
      go_roundw
      case rel => exact ⟨k + 1, by omega, by go_num, HB7.out, HX7.out, by rw [HSU.out]; exact HO7.out⟩
      case measure => simp [intOf]; omega
end Go.Proofs.YtahpdkkpnkhnhaaGreatDoor
