/- Lemmas on the way to the law PathStates (part 5): Me -/
import Derived.Test.YtahpdkkpnkhnhaaGreatDoorPathStatesP04
import Derived.Test.YtahpdkkpnkhnhaaGreatDoorPathStatesP03
set_option linter.unusedVariables false
set_option linter.unusedSimpArgs false

/- Walks: the law PathStates. -/
namespace Go.Proofs.YtahpdkkpnkhnhaaGreatDoor
open Go Go.Proofs Go.RowKit Go.Shelf
theorem InE.bad {w : World} {E : Int} {L : List Int} {e : Ending} {w' : World} (h : InE w E L e w') (hE : E ≠ 0) : ∃ a c, e = .returned (.tuple #[.slice a 0 c, .int .i64 E]) ∧ Below w.heap.size w w' := by
  obtain ⟨v, rfl, ho, hb⟩ := h
  rw [if_pos hE] at ho
  obtain ⟨a, c, e⟩ := ho.shape
  exact ⟨a, c, by rw [e]; rfl, hb⟩
theorem InE.good {w : World} {L : List Int} {e : Ending} {w' : World} (h : InE w 0 L e w') (hl : L.length ≤ 1000000000) : ∃ v, e = .returned (.tuple #[v, .int .i64 0]) ∧ Sl encI 1 w' w'.heap.size v L ∧ Below w.heap.size w w' := by
  obtain ⟨v, rfl, ho, hb⟩ := h
  rw [if_neg (by simp)] at ho
  exact ⟨v, rfl, ho.toSl encI_len hl, hb⟩
theorem EmptyPost.st {w : World} {p : Pl} {e : Ending} {w' : World} (h : EmptyPost w p e w') : StE w (ckPlant p) (emptyS p.ms.length) e w' := h
set_option maxRecDepth 100000 in
set_option maxHeartbeats 4000000 in
theorem states6 (w : World) (a1 a2 : Option Addr) (n1 n2 c1 c2 : Nat) (u : Value) (mc : Int) (p : Pl) (st : List Sx) (hwd : WdR w) (hn1 : n1 ≤ 9223372036854775807) (hn2 : n2 ≤ 9223372036854775807)
    (hv : n1 ≤ 70 → n2 ≤ 260 → PlR w w.heap.size (.slice a1 n1 c1) (.slice a2 n2 c2) p ∧ p.ms.length = n1 ∧ p.arcs.length = n2 ∧ ∀ m ∈ p.ms, m.kind.size ≤ 9223372036854775807)
    (hu : SlL Sx.enc 3 w w.heap.size u st) (hs : SzR st) :
    Calls Tryz.prog 6 #[.agg #[.slice a1 n1 c1, .slice a2 n2 c2], u, .int .i64 mc] w (Ret (.bool true) w) := by
  obtain ⟨g, hg⟩ : ∃ g, heavyB p n1 n2 [] = g := ⟨_, rfl⟩
  have HH := Lib.hid (fun (w1 : World) (hb : Below w.heap.size w w1) => heavy17 w1 a1 a2 none n1 n2 0 c1 c2 0 p [] hn1 hn2 (fun x y => ⟨(hv x y).1.later hb, (hv x y).2⟩) (Sl.nil _ _ _ _ _ _) (by simp))
  rw [hg] at HH
  have HLG := Lib.hid (fun (w1 : World) (hb : Below w.heap.size w w1) => long25 u st w1 (hu.later hb) hs)
  obtain ⟨lb, hlb⟩ : ∃ g, longB st = g := ⟨_, rfl⟩
  rw [hlb] at HLG
  have HG := Lib.hid hg
  have HLB := Lib.hid hlb
  have HWD := Lib.hid hwd
  have HV := Lib.hid hv
  have HU := Lib.hid hu
  have HSZ := Lib.hid hs
  obtain ⟨a4, c4, rfl, _, _⟩ := id hu
  obtain ⟨sn, hsn⟩ : ∃ n, st.length = n := ⟨_, rfl⟩
  rw [hsn] at HLG HU ⊢
  have HSN := Lib.hid hsn
  clear hwd hv hg hu hs hlb hsn
  have HB := Lib.hid ((Below.refl w.heap.size w).alloc (Nat.le_refl _) (.cells #[.slice a1 n1 c1, .slice a2 n2 c2] 25))
  have HX := Lib.hid (Box.new w #[.slice a1 n1 c1, .slice a2 n2 c2] 25)
  go_enter Tryz.func6, Tryz.ntmps6
  go_wp2_with fail
  refine (awake16 _ (HWD.out.later HB.out)).mono ?_
  rintro e2 w2 ⟨rfl, hb⟩
  have HB2 := Lib.hid (HB.out.trans (hb.mono HB.out.size))
  have HX2 := Lib.hid (HX.out.later hb)
  clear hb
  obtain ⟨x0, x1, xf, xz⟩ := HX2.out.v2
  go_wp2_with fail
  refine (HH.out _ HB2.out).mono ?_
  rintro e3 w3 ⟨rfl, hb⟩
  have HB3 := Lib.hid (HB2.out.trans (hb.mono HB2.out.size))
  have HX3 := Lib.hid (HX2.out.later hb)
  clear hb x0 x1 xf xz HB2 HX2
  obtain ⟨x0, x1, xf, xz⟩ := HX3.out.v2
  cases g with
  | true =>
    go_wp2_with fail
    refine (awake16 _ (HWD.out.later HB3.out)).mono ?_
    rintro e4 w4 ⟨rfl, hb⟩
    have HB4 := Lib.hid (HB3.out.trans (hb.mono HB3.out.size))
    have HX4 := Lib.hid (HX3.out.later hb)
    clear hb x0 x1 xf xz HB3 HX3
    obtain ⟨x0, x1, xf, xz⟩ := HX4.out.v2
    go_wp2_with fail
    go_ret
    exact ⟨rfl, HB4.out⟩
  | false =>
    go_wp2_with fail
    refine (HLG.out _ HB3.out).mono ?_
    rintro e5 w5 ⟨rfl, hb⟩
    have HB5 := Lib.hid (HB3.out.trans (hb.mono HB3.out.size))
    have HX5 := Lib.hid (HX3.out.later hb)
    clear hb x0 x1 xf xz HB3 HX3
    obtain ⟨x0, x1, xf, xz⟩ := HX5.out.v2
    cases lb with
    | true =>
      go_wp2_with fail
      refine (awake16 _ (HWD.out.later HB5.out)).mono ?_
      rintro e6 w6 ⟨rfl, hb⟩
      have HB6 := Lib.hid (HB5.out.trans (hb.mono HB5.out.size))
      have HX6 := Lib.hid (HX5.out.later hb)
      clear hb x0 x1 xf xz HB5 HX5
      obtain ⟨x0, x1, xf, xz⟩ := HX6.out.v2
      go_wp2_with fail
      go_ret
      exact ⟨rfl, HB6.out⟩
    | false =>
      obtain ⟨_, q2, q3, _, _⟩ := heavyB_no HG.out
      obtain ⟨hpl, hm1, hm2, _⟩ := HV.out q2 q3
      obtain ⟨q4, _⟩ := longB_no HLB.out
      have hst := HU.out
      rw [← HSN.out] at hst
      have hst := hst.short (by omega)
      rw [HSN.out] at hst
      have C27 := Lib.hid (fun (w1 : World) (hb : Below w.heap.size w w1) => checkState27 w1 _ _ _ p st (hpl.later hb) (hst.later hb) HSZ.out)
      have C35 := Lib.hid (fun (w1 : World) (hb : Below w.heap.size w w1) => checkState35 w1 _ _ _ p st (HWD.out.later hb) (hpl.later hb) (hst.later hb) HSZ.out)
      have C36 := Lib.hid (fun (w1 : World) (hb : Below w.heap.size w w1) => empty36 w1 _ _ p (HWD.out.later hb) (hpl.later hb))
      have C19 := Lib.hid (fun (w1 : World) (hb : Below w.heap.size w w1) => ckPlant19 w1 _ _ p (hpl.later hb))
      have C37 := Lib.hid (fun (w1 : World) (hb : Below w.heap.size w w1) => empty37 w1 _ _ p (hpl.later hb) (by omega))
      have C38 := Lib.hid (fun (w1 : World) (hb : Below w.heap.size w w1) => upstream38 w1 _ _ _ p st mc (HWD.out.later hb) (hpl.later hb) (hst.later hb) HSZ.out)
      have C39 := Lib.hid (fun (w1 : World) (hb : Below w.heap.size w w1) => fault39 w1 _ _ _ p st mc (HWD.out.later hb) (hpl.later hb) (hst.later hb) HSZ.out)
      have C41 := Lib.hid (fun (w1 : World) (hb : Below w.heap.size w w1) => fun x hx hfd => upstream41 w1 _ st x (hst.later hb) (by omega) hx hfd)
      have C43 := Lib.hid (fun (w1 : World) (hb : Below w.heap.size w w1) => fun x hx hfd => fault43 w1 _ st x (hst.later hb) (by omega) hx hfd)
      have HEL := Lib.hid (show (emptyS p.ms.length).length ≤ 1000000000 by unfold emptyS; rw [List.length_replicate]; omega)
      have HUL := Lib.hid (show (upL st mc st.length).length ≤ 1000000000 from Nat.le_trans (upL_len _ _ _) (by omega))
      have HFL := Lib.hid (show (offL st (upL st mc st.length ++ [mc])).length ≤ 1000000000 by rw [offL_len]; omega)
      have HPL := Lib.hid hpl
      have HOK := Lib.hid (fun h : ckState p st = 0 => ckState_ok h)
      have HCP := Lib.hid (fun h : ckPlant p ≠ 0 => show ckState p st = ckPlant p by unfold ckState; rw [if_pos h])
      have HNM := Lib.hid hm1
      clear hpl hst hm1 hm2 q2 q3 q4
      obtain ⟨E, hE⟩ : ∃ E, upE p st mc = E := ⟨_, rfl⟩
      obtain ⟨F, hF⟩ : ∃ E, faultE p st mc = E := ⟨_, rfl⟩
      rw [hE] at C38
      rw [hF] at C39
      unfold upE at hE
      unfold faultE at hF
      obtain ⟨cs, hcs⟩ : ∃ c, ckState p st = c := ⟨_, rfl⟩
      rw [hcs] at hE hF C27 C35 HCP HOK
      have HCS := Lib.hid hcs
      clear hcs
      have C36 := Lib.hid (fun (w1 : World) (hb : Below w.heap.size w w1) => (C36.out w1 hb).mono fun _ _ h => EmptyPost.st h)
      obtain ⟨ck, hck⟩ : ∃ c, ckPlant p = c := ⟨_, rfl⟩
      rw [hck] at C19 C36 HCP
      clear hck
      obtain ⟨EL, hEL⟩ : ∃ L, emptyS p.ms.length = L := ⟨_, rfl⟩
      rw [hEL] at C36 C37 HEL
      clear hEL
      obtain ⟨tEL, htEL⟩ : ∃ n, EL.length = n := ⟨_, rfl⟩
      have HTE := Lib.hid htEL
      clear htEL
      by_cases h0 : ck = 0
      rotate_left
      · obtain rfl := HCP.out h0
        rw [if_pos h0] at hE hF
        subst hE hF
        have HE0 := Lib.hid h0
        have HK0 := HE0
        have k0 : (cs == 0) = false := beq_eq_false_iff_ne.2 h0
        have k1 : (cs != 0) = true := by simpa using h0
        clear h0 C41 C43 HOK
        go_wp2_with fail
        refine (C27.out _ HB5.out).mono ?_
        rintro e7 w7 ⟨rfl, hb⟩
        have HB7 := Lib.hid (HB5.out.trans (hb.mono HB5.out.size))
        have HX7 := Lib.hid (HX5.out.later hb)
        clear hb x0 x1 xf xz HB5 HX5
        obtain ⟨x0, x1, xf, xz⟩ := HX7.out.v2
        go_wp2_with fail
        refine (C35.out _ HB7.out).mono ?_
        rintro e8 w8 ⟨rfl, hb⟩
        have HB8 := Lib.hid (HB7.out.trans (hb.mono HB7.out.size))
        have HX8 := Lib.hid (HX7.out.later hb)
        clear hb x0 x1 xf xz HB7 HX7
        obtain ⟨x0, x1, xf, xz⟩ := HX8.out.v2
        go_wp2_with fail
        refine (C36.out _ HB8.out).mono ?_
        intro e9 w9 hh
        obtain ⟨b1, cS1, rfl, hb⟩ := hh.bad HK0.out
        clear hh
        have HB9 := Lib.hid (HB8.out.trans (hb.mono HB8.out.size))
        have HX9 := Lib.hid (HX8.out.later hb)
        clear hb x0 x1 xf xz HB8 HX8
        obtain ⟨x0, x1, xf, xz⟩ := HX9.out.v2
        go_wp2_with fail
        have H19 := Lib.hid (fun (Y : Later w9) (X : Later2 Y) => C19.out X.w (HB9.out.trans (X.below.mono HB9.out.size)))
        refine wp_region_growflow 6 5 _ (fun v WA => Sl Sx.enc 3 WA WA.heap.size v EL) (by kernel_rfl) (by kernel_rfl) rfl (fun v u uu h hb => h.later hb) ?_
        apply Exists.intro
        refine ⟨fun Y => ?_, fun wa hwa => ?_, fun vP1 w10 hb hP1 => ?_⟩
        · simp only [headsOf, List.take_succ_cons, List.drop_succ_cons, List.take_zero, List.drop_zero, Nat.reduceSub, List.cons_append, List.nil_append]
          repeat go_big_quiet_step ((go_at_call 19; exact Calls.later2 (H19.out _ _)))
          exact wpQuiet_nil rfl
        · have hBa := HB9.out.trans (hwa.mono HB9.out.size)
          obtain ⟨y0, y1, yf, yz⟩ := (HX9.out.later hwa).v2
          refine ⟨37, _, ?_, (C37.out _ hBa).mono ?_⟩
          · go_simp
            first | done | rfl
          · rintro e wz hh
            obtain ⟨v, rfl, hs, hb⟩ := hh.good HEL.out
            exact ⟨v, rfl, hs, hb⟩
        obtain ⟨bP1, cP1, rfl, _, _⟩ := id hP1
        have HP1 := Lib.hid hP1
        clear hP1 H19
        rw [HTE.out] at HP1 ⊢
        simp only [Act.put, List.setIfInBounds_toArray, List.set_cons_succ, List.set_cons_zero, List.drop_succ_cons, List.drop_zero]
        have HB10 := Lib.hid (HB9.out.trans (hb.mono HB9.out.size))
        have HX10 := Lib.hid (HX9.out.later hb)
        clear hb x0 x1 xf xz HB9 HX9
        obtain ⟨x0, x1, xf, xz⟩ := HX10.out.v2
        go_wp2_with fail
        refine (states30_bad b1 cS1 _ _ _ HK0.out).mono ?_
        rintro e11 w11 ⟨rfl, hb⟩
        have HB11 := Lib.hid (HB10.out.trans (hb.mono HB10.out.size))
        have HX11 := Lib.hid (HX10.out.later hb)
        have HP1n := Lib.hid (HP1.out.later hb)
        clear HP1
        have HP1 := HP1n
        clear HP1n
        clear hb x0 x1 xf xz HB10 HX10
        obtain ⟨x0, x1, xf, xz⟩ := HX11.out.v2
        go_wp2_with fail
        refine (C38.out _ HB11.out).mono ?_
        intro e12 w12 hh
        obtain ⟨a5, c5, rfl, hb⟩ := hh.bad HE0.out
        clear hh
        have HB12 := Lib.hid (HB11.out.trans (hb.mono HB11.out.size))
        have HX12 := Lib.hid (HX11.out.later hb)
        clear hb x0 x1 xf xz HB11 HX11
        obtain ⟨x0, x1, xf, xz⟩ := HX12.out.v2
        go_wp2_with fail
        refine (C39.out _ HB12.out).mono ?_
        intro e13 w13 hh
        obtain ⟨a6, c6, rfl, hb⟩ := hh.bad HE0.out
        clear hh
        have HB13 := Lib.hid (HB12.out.trans (hb.mono HB12.out.size))
        have HX13 := Lib.hid (HX12.out.later hb)
        clear hb x0 x1 xf xz HB12 HX12
        obtain ⟨x0, x1, xf, xz⟩ := HX13.out.v2
        go_wp2_with fail
        refine (states30_bad a6 c6 _ _ _ HE0.out).mono ?_
        rintro e14 w14 ⟨rfl, hb⟩
        have HB14 := Lib.hid (HB13.out.trans (hb.mono HB13.out.size))
        have HX14 := Lib.hid (HX13.out.later hb)
        clear hb x0 x1 xf xz HB13 HX13
        obtain ⟨x0, x1, xf, xz⟩ := HX14.out.v2
        go_wp2_with fail
        go_ret
        exact ⟨rfl, HB14.out⟩
      subst h0
      by_cases h1 : cs = 0
      rotate_left
      · rw [if_pos h1] at hE hF
        subst hE hF
        have HE0 := Lib.hid h1
        have k0 : (cs == 0) = false := beq_eq_false_iff_ne.2 h1
        have k1 : (cs != 0) = true := by simpa using h1
        clear h1 C41 C43 HOK
        go_wp2_with fail
        refine (C27.out _ HB5.out).mono ?_
        rintro e15 w15 ⟨rfl, hb⟩
        have HB15 := Lib.hid (HB5.out.trans (hb.mono HB5.out.size))
        have HX15 := Lib.hid (HX5.out.later hb)
        clear hb x0 x1 xf xz HB5 HX5
        obtain ⟨x0, x1, xf, xz⟩ := HX15.out.v2
        go_wp2_with fail
        refine (C35.out _ HB15.out).mono ?_
        rintro e16 w16 ⟨rfl, hb⟩
        have HB16 := Lib.hid (HB15.out.trans (hb.mono HB15.out.size))
        have HX16 := Lib.hid (HX15.out.later hb)
        clear hb x0 x1 xf xz HB15 HX15
        obtain ⟨x0, x1, xf, xz⟩ := HX16.out.v2
        go_wp2_with fail
        refine (C36.out _ HB16.out).mono ?_
        intro e17 w17 hh
        obtain ⟨vS1, rfl, hS1, hb⟩ := hh.good HEL.out
        have HS1 := Lib.hid hS1
        obtain ⟨b1, cS1, rfl, _, _⟩ := hS1
        clear hh
        have HB17 := Lib.hid (HB16.out.trans (hb.mono HB16.out.size))
        have HX17 := Lib.hid (HX16.out.later hb)
        clear hb x0 x1 xf xz HB16 HX16
        obtain ⟨x0, x1, xf, xz⟩ := HX17.out.v2
        rw [HTE.out] at HS1 ⊢
        go_wp2_with fail
        have H19 := Lib.hid (fun (Y : Later w17) (X : Later2 Y) => C19.out X.w (HB17.out.trans (X.below.mono HB17.out.size)))
        refine wp_region_growflow 6 5 _ (fun v WA => Sl Sx.enc 3 WA WA.heap.size v EL) (by kernel_rfl) (by kernel_rfl) rfl (fun v u uu h hb => h.later hb) ?_
        apply Exists.intro
        refine ⟨fun Y => ?_, fun wa hwa => ?_, fun vP1 w18 hb hP1 => ?_⟩
        · simp only [headsOf, List.take_succ_cons, List.drop_succ_cons, List.take_zero, List.drop_zero, Nat.reduceSub, List.cons_append, List.nil_append]
          repeat go_big_quiet_step ((go_at_call 19; exact Calls.later2 (H19.out _ _)))
          exact wpQuiet_nil rfl
        · have hBa := HB17.out.trans (hwa.mono HB17.out.size)
          obtain ⟨y0, y1, yf, yz⟩ := (HX17.out.later hwa).v2
          refine ⟨37, _, ?_, (C37.out _ hBa).mono ?_⟩
          · go_simp
            first | done | rfl
          · rintro e wz hh
            obtain ⟨v, rfl, hs, hb⟩ := hh.good HEL.out
            exact ⟨v, rfl, hs, hb⟩
        obtain ⟨bP1, cP1, rfl, _, _⟩ := id hP1
        have HP1 := Lib.hid hP1
        clear hP1 H19
        rw [HTE.out] at HP1 ⊢
        simp only [Act.put, List.setIfInBounds_toArray, List.set_cons_succ, List.set_cons_zero, List.drop_succ_cons, List.drop_zero]
        have HB18 := Lib.hid (HB17.out.trans (hb.mono HB17.out.size))
        have HX18 := Lib.hid (HX17.out.later hb)
        have HS1n := Lib.hid (HS1.out.later hb)
        clear HS1
        have HS1 := HS1n
        clear HS1n
        clear hb x0 x1 xf xz HB17 HX17
        obtain ⟨x0, x1, xf, xz⟩ := HX18.out.v2
        go_wp2_with fail
        refine (states30_good _ _ _ _ HS1.out HP1.out).mono ?_
        rintro e19 w19 ⟨rfl, hb⟩
        have HB19 := Lib.hid (HB18.out.trans (hb.mono HB18.out.size))
        have HX19 := Lib.hid (HX18.out.later hb)
        have HS1n := Lib.hid (HS1.out.later hb)
        clear HS1
        have HS1 := HS1n
        clear HS1n
        have HP1n := Lib.hid (HP1.out.later hb)
        clear HP1
        have HP1 := HP1n
        clear HP1n
        clear hb x0 x1 xf xz HB18 HX18
        obtain ⟨x0, x1, xf, xz⟩ := HX19.out.v2
        go_wp2_with fail
        refine (C38.out _ HB19.out).mono ?_
        intro e20 w20 hh
        obtain ⟨a5, c5, rfl, hb⟩ := hh.bad HE0.out
        clear hh
        have HB20 := Lib.hid (HB19.out.trans (hb.mono HB19.out.size))
        have HX20 := Lib.hid (HX19.out.later hb)
        clear hb x0 x1 xf xz HB19 HX19
        obtain ⟨x0, x1, xf, xz⟩ := HX20.out.v2
        go_wp2_with fail
        refine (C39.out _ HB20.out).mono ?_
        intro e21 w21 hh
        obtain ⟨a6, c6, rfl, hb⟩ := hh.bad HE0.out
        clear hh
        have HB21 := Lib.hid (HB20.out.trans (hb.mono HB20.out.size))
        have HX21 := Lib.hid (HX20.out.later hb)
        clear hb x0 x1 xf xz HB20 HX20
        obtain ⟨x0, x1, xf, xz⟩ := HX21.out.v2
        go_wp2_with fail
        refine (states30_bad a6 c6 _ _ _ HE0.out).mono ?_
        rintro e22 w22 ⟨rfl, hb⟩
        have HB22 := Lib.hid (HB21.out.trans (hb.mono HB21.out.size))
        have HX22 := Lib.hid (HX21.out.later hb)
        clear hb x0 x1 xf xz HB21 HX21
        obtain ⟨x0, x1, xf, xz⟩ := HX22.out.v2
        go_wp2_with fail
        go_ret
        exact ⟨rfl, HB22.out⟩
      subst h1
      rw [if_neg (show ¬ (0 : Int) ≠ 0 by simp)] at hE hF
      obtain ⟨hok, hlen, hck0, _⟩ := HOK.out rfl
      have hfd := feeds_in hok hck0
      rw [← hlen] at hfd
      clear HOK hck0 HCP
      cases hin : inN p.ms.length mc with
      | false =>
        have hr : mc < 0 ∨ (sn : Int) ≤ mc := by
          unfold inN at hin
          rw [← hlen, HSN.out] at hin
          simp only [Bool.and_eq_false_iff, decide_eq_false_iff_not] at hin
          omega
        rw [hin, if_neg (by simp)] at hE hF
        subst hE hF
        have HE0 := Lib.hid (show (10 : Int) ≠ 0 by decide)
        clear C41 C43 hok hlen hfd hin
        by_cases h2 : mc < 0
        · have e0 : decide (mc < 0) = true := decide_eq_true h2
          clear h2 hr
          go_wp2_with fail
          refine (C27.out _ HB5.out).mono ?_
          rintro e23 w23 ⟨rfl, hb⟩
          have HB23 := Lib.hid (HB5.out.trans (hb.mono HB5.out.size))
          have HX23 := Lib.hid (HX5.out.later hb)
          clear hb x0 x1 xf xz HB5 HX5
          obtain ⟨x0, x1, xf, xz⟩ := HX23.out.v2
          go_wp2_with fail
          refine (C35.out _ HB23.out).mono ?_
          rintro e24 w24 ⟨rfl, hb⟩
          have HB24 := Lib.hid (HB23.out.trans (hb.mono HB23.out.size))
          have HX24 := Lib.hid (HX23.out.later hb)
          clear hb x0 x1 xf xz HB23 HX23
          obtain ⟨x0, x1, xf, xz⟩ := HX24.out.v2
          go_wp2_with fail
          refine (C36.out _ HB24.out).mono ?_
          intro e25 w25 hh
          obtain ⟨vS1, rfl, hS1, hb⟩ := hh.good HEL.out
          have HS1 := Lib.hid hS1
          obtain ⟨b1, cS1, rfl, _, _⟩ := hS1
          clear hh
          have HB25 := Lib.hid (HB24.out.trans (hb.mono HB24.out.size))
          have HX25 := Lib.hid (HX24.out.later hb)
          clear hb x0 x1 xf xz HB24 HX24
          obtain ⟨x0, x1, xf, xz⟩ := HX25.out.v2
          rw [HTE.out] at HS1 ⊢
          go_wp2_with fail
          have H19 := Lib.hid (fun (Y : Later w25) (X : Later2 Y) => C19.out X.w (HB25.out.trans (X.below.mono HB25.out.size)))
          refine wp_region_growflow 6 5 _ (fun v WA => Sl Sx.enc 3 WA WA.heap.size v EL) (by kernel_rfl) (by kernel_rfl) rfl (fun v u uu h hb => h.later hb) ?_
          apply Exists.intro
          refine ⟨fun Y => ?_, fun wa hwa => ?_, fun vP1 w26 hb hP1 => ?_⟩
          · simp only [headsOf, List.take_succ_cons, List.drop_succ_cons, List.take_zero, List.drop_zero, Nat.reduceSub, List.cons_append, List.nil_append]
            repeat go_big_quiet_step ((go_at_call 19; exact Calls.later2 (H19.out _ _)))
            exact wpQuiet_nil rfl
          · have hBa := HB25.out.trans (hwa.mono HB25.out.size)
            obtain ⟨y0, y1, yf, yz⟩ := (HX25.out.later hwa).v2
            refine ⟨37, _, ?_, (C37.out _ hBa).mono ?_⟩
            · go_simp
              first | done | rfl
            · rintro e wz hh
              obtain ⟨v, rfl, hs, hb⟩ := hh.good HEL.out
              exact ⟨v, rfl, hs, hb⟩
          obtain ⟨bP1, cP1, rfl, _, _⟩ := id hP1
          have HP1 := Lib.hid hP1
          clear hP1 H19
          rw [HTE.out] at HP1 ⊢
          simp only [Act.put, List.setIfInBounds_toArray, List.set_cons_succ, List.set_cons_zero, List.drop_succ_cons, List.drop_zero]
          have HB26 := Lib.hid (HB25.out.trans (hb.mono HB25.out.size))
          have HX26 := Lib.hid (HX25.out.later hb)
          have HS1n := Lib.hid (HS1.out.later hb)
          clear HS1
          have HS1 := HS1n
          clear HS1n
          clear hb x0 x1 xf xz HB25 HX25
          obtain ⟨x0, x1, xf, xz⟩ := HX26.out.v2
          go_wp2_with fail
          refine (states30_good _ _ _ _ HS1.out HP1.out).mono ?_
          rintro e27 w27 ⟨rfl, hb⟩
          have HB27 := Lib.hid (HB26.out.trans (hb.mono HB26.out.size))
          have HX27 := Lib.hid (HX26.out.later hb)
          have HS1n := Lib.hid (HS1.out.later hb)
          clear HS1
          have HS1 := HS1n
          clear HS1n
          have HP1n := Lib.hid (HP1.out.later hb)
          clear HP1
          have HP1 := HP1n
          clear HP1n
          clear hb x0 x1 xf xz HB26 HX26
          obtain ⟨x0, x1, xf, xz⟩ := HX27.out.v2
          go_wp2_with fail
          refine (C38.out _ HB27.out).mono ?_
          intro e28 w28 hh
          obtain ⟨a5, c5, rfl, hb⟩ := hh.bad HE0.out
          clear hh
          have HB28 := Lib.hid (HB27.out.trans (hb.mono HB27.out.size))
          have HX28 := Lib.hid (HX27.out.later hb)
          clear hb x0 x1 xf xz HB27 HX27
          obtain ⟨x0, x1, xf, xz⟩ := HX28.out.v2
          go_wp2_with fail
          refine (C39.out _ HB28.out).mono ?_
          intro e29 w29 hh
          obtain ⟨a6, c6, rfl, hb⟩ := hh.bad HE0.out
          clear hh
          have HB29 := Lib.hid (HB28.out.trans (hb.mono HB28.out.size))
          have HX29 := Lib.hid (HX28.out.later hb)
          clear hb x0 x1 xf xz HB28 HX28
          obtain ⟨x0, x1, xf, xz⟩ := HX29.out.v2
          go_wp2_with fail
          refine (states30_bad a6 c6 _ _ _ HE0.out).mono ?_
          rintro e30 w30 ⟨rfl, hb⟩
          have HB30 := Lib.hid (HB29.out.trans (hb.mono HB29.out.size))
          have HX30 := Lib.hid (HX29.out.later hb)
          clear hb x0 x1 xf xz HB29 HX29
          obtain ⟨x0, x1, xf, xz⟩ := HX30.out.v2
          go_wp2_with fail
          go_ret
          exact ⟨rfl, HB30.out⟩
        have e0 : decide (mc < 0) = false := decide_eq_false h2
        have e1 : decide ((sn : Int) ≤ mc) = true := decide_eq_true (hr.resolve_left h2)
        clear h2 hr
        go_wp2_with fail
        refine (C27.out _ HB5.out).mono ?_
        rintro e31 w31 ⟨rfl, hb⟩
        have HB31 := Lib.hid (HB5.out.trans (hb.mono HB5.out.size))
        have HX31 := Lib.hid (HX5.out.later hb)
        clear hb x0 x1 xf xz HB5 HX5
        obtain ⟨x0, x1, xf, xz⟩ := HX31.out.v2
        go_wp2_with fail
        refine (C35.out _ HB31.out).mono ?_
        rintro e32 w32 ⟨rfl, hb⟩
        have HB32 := Lib.hid (HB31.out.trans (hb.mono HB31.out.size))
        have HX32 := Lib.hid (HX31.out.later hb)
        clear hb x0 x1 xf xz HB31 HX31
        obtain ⟨x0, x1, xf, xz⟩ := HX32.out.v2
        go_wp2_with fail
        refine (C36.out _ HB32.out).mono ?_
        intro e33 w33 hh
        obtain ⟨vS1, rfl, hS1, hb⟩ := hh.good HEL.out
        have HS1 := Lib.hid hS1
        obtain ⟨b1, cS1, rfl, _, _⟩ := hS1
        clear hh
        have HB33 := Lib.hid (HB32.out.trans (hb.mono HB32.out.size))
        have HX33 := Lib.hid (HX32.out.later hb)
        clear hb x0 x1 xf xz HB32 HX32
        obtain ⟨x0, x1, xf, xz⟩ := HX33.out.v2
        rw [HTE.out] at HS1 ⊢
        go_wp2_with fail
        have H19 := Lib.hid (fun (Y : Later w33) (X : Later2 Y) => C19.out X.w (HB33.out.trans (X.below.mono HB33.out.size)))
        refine wp_region_growflow 6 5 _ (fun v WA => Sl Sx.enc 3 WA WA.heap.size v EL) (by kernel_rfl) (by kernel_rfl) rfl (fun v u uu h hb => h.later hb) ?_
        apply Exists.intro
        refine ⟨fun Y => ?_, fun wa hwa => ?_, fun vP1 w34 hb hP1 => ?_⟩
        · simp only [headsOf, List.take_succ_cons, List.drop_succ_cons, List.take_zero, List.drop_zero, Nat.reduceSub, List.cons_append, List.nil_append]
          repeat go_big_quiet_step ((go_at_call 19; exact Calls.later2 (H19.out _ _)))
          exact wpQuiet_nil rfl
        · have hBa := HB33.out.trans (hwa.mono HB33.out.size)
          obtain ⟨y0, y1, yf, yz⟩ := (HX33.out.later hwa).v2
          refine ⟨37, _, ?_, (C37.out _ hBa).mono ?_⟩
          · go_simp
            first | done | rfl
          · rintro e wz hh
            obtain ⟨v, rfl, hs, hb⟩ := hh.good HEL.out
            exact ⟨v, rfl, hs, hb⟩
        obtain ⟨bP1, cP1, rfl, _, _⟩ := id hP1
        have HP1 := Lib.hid hP1
        clear hP1 H19
        rw [HTE.out] at HP1 ⊢
        simp only [Act.put, List.setIfInBounds_toArray, List.set_cons_succ, List.set_cons_zero, List.drop_succ_cons, List.drop_zero]
        have HB34 := Lib.hid (HB33.out.trans (hb.mono HB33.out.size))
        have HX34 := Lib.hid (HX33.out.later hb)
        have HS1n := Lib.hid (HS1.out.later hb)
        clear HS1
        have HS1 := HS1n
        clear HS1n
        clear hb x0 x1 xf xz HB33 HX33
        obtain ⟨x0, x1, xf, xz⟩ := HX34.out.v2
        go_wp2_with fail
        refine (states30_good _ _ _ _ HS1.out HP1.out).mono ?_
        rintro e35 w35 ⟨rfl, hb⟩
        have HB35 := Lib.hid (HB34.out.trans (hb.mono HB34.out.size))
        have HX35 := Lib.hid (HX34.out.later hb)
        have HS1n := Lib.hid (HS1.out.later hb)
        clear HS1
        have HS1 := HS1n
        clear HS1n
        have HP1n := Lib.hid (HP1.out.later hb)
        clear HP1
        have HP1 := HP1n
        clear HP1n
        clear hb x0 x1 xf xz HB34 HX34
        obtain ⟨x0, x1, xf, xz⟩ := HX35.out.v2
        go_wp2_with fail
        refine (C38.out _ HB35.out).mono ?_
        intro e36 w36 hh
        obtain ⟨a5, c5, rfl, hb⟩ := hh.bad HE0.out
        clear hh
        have HB36 := Lib.hid (HB35.out.trans (hb.mono HB35.out.size))
        have HX36 := Lib.hid (HX35.out.later hb)
        clear hb x0 x1 xf xz HB35 HX35
        obtain ⟨x0, x1, xf, xz⟩ := HX36.out.v2
        go_wp2_with fail
        refine (C39.out _ HB36.out).mono ?_
        intro e37 w37 hh
        obtain ⟨a6, c6, rfl, hb⟩ := hh.bad HE0.out
        clear hh
        have HB37 := Lib.hid (HB36.out.trans (hb.mono HB36.out.size))
        have HX37 := Lib.hid (HX36.out.later hb)
        clear hb x0 x1 xf xz HB36 HX36
        obtain ⟨x0, x1, xf, xz⟩ := HX37.out.v2
        go_wp2_with fail
        refine (states30_bad a6 c6 _ _ _ HE0.out).mono ?_
        rintro e38 w38 ⟨rfl, hb⟩
        have HB38 := Lib.hid (HB37.out.trans (hb.mono HB37.out.size))
        have HX38 := Lib.hid (HX37.out.later hb)
        clear hb x0 x1 xf xz HB37 HX37
        obtain ⟨x0, x1, xf, xz⟩ := HX38.out.v2
        go_wp2_with fail
        go_ret
        exact ⟨rfl, HB38.out⟩
      | true =>
        rw [hin, if_pos rfl] at hE hF
        subst hE
        obtain ⟨x, hx0, hxn⟩ := inN_nat hin
        subst hx0
        have hxs : x < st.length := by rw [hlen]; exact hxn
        have C41 := Lib.hid (fun (w1 : World) (hb : Below w.heap.size w w1) => C41.out w1 hb x hxs hfd)
        have C43 := Lib.hid (fun (w1 : World) (hb : Below w.heap.size w w1) => C43.out w1 hb x hxs hfd)
        obtain ⟨⟨a1x, c1x, e1x, hl1, hA1⟩, _⟩ := HPL.out
        simp only [Value.slice.injEq] at e1x
        obtain ⟨rfl, hnn, rfl⟩ := e1x
        obtain ⟨b1, off1, rfl, hbb1, hcells1⟩ := hA1 (by omega)
        have HCM := Lib.hid (hcells1 x hxn)
        rw [kdA_nat hxn] at hF
        have e0 : decide ((x : Int) < 0) = false := decide_eq_false (by omega)
        have e1 : decide ((sn : Int) ≤ (x : Int)) = false := decide_eq_false (by have := HSN.out; omega)
        have e1n : decide (sn ≤ x) = false := decide_eq_false (by have := HSN.out; omega)
        have e1q : ¬ sn ≤ x := by have := HSN.out; omega
        have hxm : (x : Int) < n1 := by have := HNM.out; omega
        clear hA1 hcells1 hl1 hnn hlen hfd hin hok
        generalize p.ms[x] = mx at *
        clear hxn hxs
        obtain ⟨sm, tm⟩ := mx
        dsimp only at hF
        have C42 := Lib.hid (fun (w1 : World) => isConveyor42 sm w1)
        obtain ⟨qc, hqc⟩ : ∃ q, cvB sm = q := ⟨_, rfl⟩
        rw [hqc] at C42 hF
        clear hqc
        generalize offL st (upL st (x : Int) st.length ++ [(x : Int)]) = FL at *
        generalize upL st (x : Int) st.length = UL at *
        cases qc with
        | true =>
          rw [if_pos rfl] at hF
          subst hF
          go_wp2_with fail
          refine (C27.out _ HB5.out).mono ?_
          rintro e39 w39 ⟨rfl, hb⟩
          have HB39 := Lib.hid (HB5.out.trans (hb.mono HB5.out.size))
          have HX39 := Lib.hid (HX5.out.later hb)
          clear hb x0 x1 xf xz HB5 HX5
          obtain ⟨x0, x1, xf, xz⟩ := HX39.out.v2
          go_wp2_with fail
          refine (C35.out _ HB39.out).mono ?_
          rintro e40 w40 ⟨rfl, hb⟩
          have HB40 := Lib.hid (HB39.out.trans (hb.mono HB39.out.size))
          have HX40 := Lib.hid (HX39.out.later hb)
          clear hb x0 x1 xf xz HB39 HX39
          obtain ⟨x0, x1, xf, xz⟩ := HX40.out.v2
          go_wp2_with fail
          refine (C36.out _ HB40.out).mono ?_
          intro e41 w41 hh
          obtain ⟨vS1, rfl, hS1, hb⟩ := hh.good HEL.out
          have HS1 := Lib.hid hS1
          obtain ⟨b1, cS1, rfl, _, _⟩ := hS1
          clear hh
          have HB41 := Lib.hid (HB40.out.trans (hb.mono HB40.out.size))
          have HX41 := Lib.hid (HX40.out.later hb)
          clear hb x0 x1 xf xz HB40 HX40
          obtain ⟨x0, x1, xf, xz⟩ := HX41.out.v2
          rw [HTE.out] at HS1 ⊢
          go_wp2_with fail
          have H19 := Lib.hid (fun (Y : Later w41) (X : Later2 Y) => C19.out X.w (HB41.out.trans (X.below.mono HB41.out.size)))
          refine wp_region_growflow 6 5 _ (fun v WA => Sl Sx.enc 3 WA WA.heap.size v EL) (by kernel_rfl) (by kernel_rfl) rfl (fun v u uu h hb => h.later hb) ?_
          apply Exists.intro
          refine ⟨fun Y => ?_, fun wa hwa => ?_, fun vP1 w42 hb hP1 => ?_⟩
          · simp only [headsOf, List.take_succ_cons, List.drop_succ_cons, List.take_zero, List.drop_zero, Nat.reduceSub, List.cons_append, List.nil_append]
            repeat go_big_quiet_step ((go_at_call 19; exact Calls.later2 (H19.out _ _)))
            exact wpQuiet_nil rfl
          · have hBa := HB41.out.trans (hwa.mono HB41.out.size)
            obtain ⟨y0, y1, yf, yz⟩ := (HX41.out.later hwa).v2
            refine ⟨37, _, ?_, (C37.out _ hBa).mono ?_⟩
            · go_simp
              first | done | rfl
            · rintro e wz hh
              obtain ⟨v, rfl, hs, hb⟩ := hh.good HEL.out
              exact ⟨v, rfl, hs, hb⟩
          obtain ⟨bP1, cP1, rfl, _, _⟩ := id hP1
          have HP1 := Lib.hid hP1
          clear hP1 H19
          rw [HTE.out] at HP1 ⊢
          simp only [Act.put, List.setIfInBounds_toArray, List.set_cons_succ, List.set_cons_zero, List.drop_succ_cons, List.drop_zero]
          have HB42 := Lib.hid (HB41.out.trans (hb.mono HB41.out.size))
          have HX42 := Lib.hid (HX41.out.later hb)
          have HS1n := Lib.hid (HS1.out.later hb)
          clear HS1
          have HS1 := HS1n
          clear HS1n
          clear hb x0 x1 xf xz HB41 HX41
          obtain ⟨x0, x1, xf, xz⟩ := HX42.out.v2
          go_wp2_with fail
          refine (states30_good _ _ _ _ HS1.out HP1.out).mono ?_
          rintro e43 w43 ⟨rfl, hb⟩
          have HB43 := Lib.hid (HB42.out.trans (hb.mono HB42.out.size))
          have HX43 := Lib.hid (HX42.out.later hb)
          have HS1n := Lib.hid (HS1.out.later hb)
          clear HS1
          have HS1 := HS1n
          clear HS1n
          have HP1n := Lib.hid (HP1.out.later hb)
          clear HP1
          have HP1 := HP1n
          clear HP1n
          clear hb x0 x1 xf xz HB42 HX42
          obtain ⟨x0, x1, xf, xz⟩ := HX43.out.v2
          go_wp2_with fail
          refine (C38.out _ HB43.out).mono ?_
          intro e44 w44 hh
          obtain ⟨vS2, rfl, hS2, hb⟩ := hh.good HUL.out
          have HS2 := Lib.hid hS2
          obtain ⟨a5, c5, rfl, _, _⟩ := hS2
          clear hh
          have HB44 := Lib.hid (HB43.out.trans (hb.mono HB43.out.size))
          have HX44 := Lib.hid (HX43.out.later hb)
          clear hb x0 x1 xf xz HB43 HX43
          obtain ⟨x0, x1, xf, xz⟩ := HX44.out.v2
          obtain ⟨tS2, htS2⟩ : ∃ n, UL.length = n := ⟨_, rfl⟩
          rw [htS2] at HS2 ⊢
          clear htS2
          go_wp2_with fail
          refine (C39.out _ HB44.out).mono ?_
          intro e45 w45 hh
          obtain ⟨vS3, rfl, hS3, hb⟩ := hh.good HFL.out
          have HS3 := Lib.hid hS3
          obtain ⟨a6, c6, rfl, _, _⟩ := hS3
          clear hh
          have HB45 := Lib.hid (HB44.out.trans (hb.mono HB44.out.size))
          have HX45 := Lib.hid (HX44.out.later hb)
          have HS2n := Lib.hid (HS2.out.later hb)
          clear HS2
          have HS2 := HS2n
          clear HS2n
          clear hb x0 x1 xf xz HB44 HX44
          obtain ⟨x0, x1, xf, xz⟩ := HX45.out.v2
          obtain ⟨tS3, htS3⟩ : ∃ n, FL.length = n := ⟨_, rfl⟩
          rw [htS3] at HS3 ⊢
          clear htS3
          go_wp2_with fail
          refine (C41.out _ HB45.out).mono ?_
          intro e46 w46 hh
          obtain ⟨vP2, rfl, hP2, hb⟩ := id hh
          have HP2 := Lib.hid (hP2.toSl encI_len HUL.out)
          clear hP2
          clear hh
          have HB46 := Lib.hid (HB45.out.trans (hb.mono HB45.out.size))
          have HX46 := Lib.hid (HX45.out.later hb)
          have HS2n := Lib.hid (HS2.out.later hb)
          clear HS2
          have HS2 := HS2n
          clear HS2n
          have HS3n := Lib.hid (HS3.out.later hb)
          clear HS3
          have HS3 := HS3n
          clear HS3n
          clear hb x0 x1 xf xz HB45 HX45
          obtain ⟨x0, x1, xf, xz⟩ := HX46.out.v2
          go_wp2_with fail
          refine (aw_same HS2.out HP2.out).mono ?_
          rintro e47 w47 ⟨rfl, hb⟩
          have HB47 := Lib.hid (HB46.out.trans (hb.mono HB46.out.size))
          have HX47 := Lib.hid (HX46.out.later hb)
          have HS2n := Lib.hid (HS2.out.later hb)
          clear HS2
          have HS2 := HS2n
          clear HS2n
          have HS3n := Lib.hid (HS3.out.later hb)
          clear HS3
          have HS3 := HS3n
          clear HS3n
          have HP2n := Lib.hid (HP2.out.later hb)
          clear HP2
          have HP2 := HP2n
          clear HP2n
          clear hb x0 x1 xf xz HB46 HX46
          obtain ⟨x0, x1, xf, xz⟩ := HX47.out.v2
          obtain ⟨m0, m1⟩ := (HCM.out.below HB47.out hbb1).c2
          have hb1z := Nat.lt_of_lt_of_le hbb1 HB47.out.size
          dsimp only at m0 m1
          go_wp2_with fail
          refine (C42.out _).mono ?_
          rintro ex wx ⟨rfl, rfl⟩
          clear m0 m1 hb1z
          go_wp2_with fail
          refine (C43.out _ HB47.out).mono ?_
          intro e48 w48 hh
          obtain ⟨vP3, rfl, hP3, hb⟩ := hh.good HFL.out
          have HP3 := Lib.hid hP3
          clear hP3
          clear hh
          have HB48 := Lib.hid (HB47.out.trans (hb.mono HB47.out.size))
          have HX48 := Lib.hid (HX47.out.later hb)
          have HS2n := Lib.hid (HS2.out.later hb)
          clear HS2
          have HS2 := HS2n
          clear HS2n
          have HS3n := Lib.hid (HS3.out.later hb)
          clear HS3
          have HS3 := HS3n
          clear HS3n
          have HP2n := Lib.hid (HP2.out.later hb)
          clear HP2
          have HP2 := HP2n
          clear HP2n
          clear hb x0 x1 xf xz HB47 HX47
          obtain ⟨x0, x1, xf, xz⟩ := HX48.out.v2
          go_wp2_with fail
          refine (states30_good _ _ _ _ HS3.out HP3.out).mono ?_
          rintro e49 w49 ⟨rfl, hb⟩
          have HB49 := Lib.hid (HB48.out.trans (hb.mono HB48.out.size))
          have HX49 := Lib.hid (HX48.out.later hb)
          have HS2n := Lib.hid (HS2.out.later hb)
          clear HS2
          have HS2 := HS2n
          clear HS2n
          have HS3n := Lib.hid (HS3.out.later hb)
          clear HS3
          have HS3 := HS3n
          clear HS3n
          have HP2n := Lib.hid (HP2.out.later hb)
          clear HP2
          have HP2 := HP2n
          clear HP2n
          have HP3n := Lib.hid (HP3.out.later hb)
          clear HP3
          have HP3 := HP3n
          clear HP3n
          clear hb x0 x1 xf xz HB48 HX48
          obtain ⟨x0, x1, xf, xz⟩ := HX49.out.v2
          go_wp2_with fail
          go_ret
          exact ⟨rfl, HB49.out⟩
        | false =>
          rw [if_neg (by simp)] at hF
          subst hF
          have HF0 := Lib.hid (show (20 : Int) ≠ 0 by decide)
          go_wp2_with fail
          refine (C27.out _ HB5.out).mono ?_
          rintro e50 w50 ⟨rfl, hb⟩
          have HB50 := Lib.hid (HB5.out.trans (hb.mono HB5.out.size))
          have HX50 := Lib.hid (HX5.out.later hb)
          clear hb x0 x1 xf xz HB5 HX5
          obtain ⟨x0, x1, xf, xz⟩ := HX50.out.v2
          go_wp2_with fail
          refine (C35.out _ HB50.out).mono ?_
          rintro e51 w51 ⟨rfl, hb⟩
          have HB51 := Lib.hid (HB50.out.trans (hb.mono HB50.out.size))
          have HX51 := Lib.hid (HX50.out.later hb)
          clear hb x0 x1 xf xz HB50 HX50
          obtain ⟨x0, x1, xf, xz⟩ := HX51.out.v2
          go_wp2_with fail
          refine (C36.out _ HB51.out).mono ?_
          intro e52 w52 hh
          obtain ⟨vS1, rfl, hS1, hb⟩ := hh.good HEL.out
          have HS1 := Lib.hid hS1
          obtain ⟨b1, cS1, rfl, _, _⟩ := hS1
          clear hh
          have HB52 := Lib.hid (HB51.out.trans (hb.mono HB51.out.size))
          have HX52 := Lib.hid (HX51.out.later hb)
          clear hb x0 x1 xf xz HB51 HX51
          obtain ⟨x0, x1, xf, xz⟩ := HX52.out.v2
          rw [HTE.out] at HS1 ⊢
          go_wp2_with fail
          have H19 := Lib.hid (fun (Y : Later w52) (X : Later2 Y) => C19.out X.w (HB52.out.trans (X.below.mono HB52.out.size)))
          refine wp_region_growflow 6 5 _ (fun v WA => Sl Sx.enc 3 WA WA.heap.size v EL) (by kernel_rfl) (by kernel_rfl) rfl (fun v u uu h hb => h.later hb) ?_
          apply Exists.intro
          refine ⟨fun Y => ?_, fun wa hwa => ?_, fun vP1 w53 hb hP1 => ?_⟩
          · simp only [headsOf, List.take_succ_cons, List.drop_succ_cons, List.take_zero, List.drop_zero, Nat.reduceSub, List.cons_append, List.nil_append]
            repeat go_big_quiet_step ((go_at_call 19; exact Calls.later2 (H19.out _ _)))
            exact wpQuiet_nil rfl
          · have hBa := HB52.out.trans (hwa.mono HB52.out.size)
            obtain ⟨y0, y1, yf, yz⟩ := (HX52.out.later hwa).v2
            refine ⟨37, _, ?_, (C37.out _ hBa).mono ?_⟩
            · go_simp
              first | done | rfl
            · rintro e wz hh
              obtain ⟨v, rfl, hs, hb⟩ := hh.good HEL.out
              exact ⟨v, rfl, hs, hb⟩
          obtain ⟨bP1, cP1, rfl, _, _⟩ := id hP1
          have HP1 := Lib.hid hP1
          clear hP1 H19
          rw [HTE.out] at HP1 ⊢
          simp only [Act.put, List.setIfInBounds_toArray, List.set_cons_succ, List.set_cons_zero, List.drop_succ_cons, List.drop_zero]
          have HB53 := Lib.hid (HB52.out.trans (hb.mono HB52.out.size))
          have HX53 := Lib.hid (HX52.out.later hb)
          have HS1n := Lib.hid (HS1.out.later hb)
          clear HS1
          have HS1 := HS1n
          clear HS1n
          clear hb x0 x1 xf xz HB52 HX52
          obtain ⟨x0, x1, xf, xz⟩ := HX53.out.v2
          go_wp2_with fail
          refine (states30_good _ _ _ _ HS1.out HP1.out).mono ?_
          rintro e54 w54 ⟨rfl, hb⟩
          have HB54 := Lib.hid (HB53.out.trans (hb.mono HB53.out.size))
          have HX54 := Lib.hid (HX53.out.later hb)
          have HS1n := Lib.hid (HS1.out.later hb)
          clear HS1
          have HS1 := HS1n
          clear HS1n
          have HP1n := Lib.hid (HP1.out.later hb)
          clear HP1
          have HP1 := HP1n
          clear HP1n
          clear hb x0 x1 xf xz HB53 HX53
          obtain ⟨x0, x1, xf, xz⟩ := HX54.out.v2
          go_wp2_with fail
          refine (C38.out _ HB54.out).mono ?_
          intro e55 w55 hh
          obtain ⟨vS2, rfl, hS2, hb⟩ := hh.good HUL.out
          have HS2 := Lib.hid hS2
          obtain ⟨a5, c5, rfl, _, _⟩ := hS2
          clear hh
          have HB55 := Lib.hid (HB54.out.trans (hb.mono HB54.out.size))
          have HX55 := Lib.hid (HX54.out.later hb)
          clear hb x0 x1 xf xz HB54 HX54
          obtain ⟨x0, x1, xf, xz⟩ := HX55.out.v2
          obtain ⟨tS2, htS2⟩ : ∃ n, UL.length = n := ⟨_, rfl⟩
          rw [htS2] at HS2 ⊢
          clear htS2
          go_wp2_with fail
          refine (C39.out _ HB55.out).mono ?_
          intro e56 w56 hh
          obtain ⟨a6, c6, rfl, hb⟩ := hh.bad HF0.out
          clear hh
          have HB56 := Lib.hid (HB55.out.trans (hb.mono HB55.out.size))
          have HX56 := Lib.hid (HX55.out.later hb)
          have HS2n := Lib.hid (HS2.out.later hb)
          clear HS2
          have HS2 := HS2n
          clear HS2n
          clear hb x0 x1 xf xz HB55 HX55
          obtain ⟨x0, x1, xf, xz⟩ := HX56.out.v2
          go_wp2_with fail
          refine (C41.out _ HB56.out).mono ?_
          intro e57 w57 hh
          obtain ⟨vP2, rfl, hP2, hb⟩ := id hh
          have HP2 := Lib.hid (hP2.toSl encI_len HUL.out)
          clear hP2
          clear hh
          have HB57 := Lib.hid (HB56.out.trans (hb.mono HB56.out.size))
          have HX57 := Lib.hid (HX56.out.later hb)
          have HS2n := Lib.hid (HS2.out.later hb)
          clear HS2
          have HS2 := HS2n
          clear HS2n
          clear hb x0 x1 xf xz HB56 HX56
          obtain ⟨x0, x1, xf, xz⟩ := HX57.out.v2
          go_wp2_with fail
          refine (aw_same HS2.out HP2.out).mono ?_
          rintro e58 w58 ⟨rfl, hb⟩
          have HB58 := Lib.hid (HB57.out.trans (hb.mono HB57.out.size))
          have HX58 := Lib.hid (HX57.out.later hb)
          have HS2n := Lib.hid (HS2.out.later hb)
          clear HS2
          have HS2 := HS2n
          clear HS2n
          have HP2n := Lib.hid (HP2.out.later hb)
          clear HP2
          have HP2 := HP2n
          clear HP2n
          clear hb x0 x1 xf xz HB57 HX57
          obtain ⟨x0, x1, xf, xz⟩ := HX58.out.v2
          obtain ⟨m0, m1⟩ := (HCM.out.below HB58.out hbb1).c2
          have hb1z := Nat.lt_of_lt_of_le hbb1 HB58.out.size
          dsimp only at m0 m1
          go_wp2_with fail
          refine (C42.out _).mono ?_
          rintro ex wx ⟨rfl, rfl⟩
          clear m0 m1 hb1z
          go_wp2_with fail
          refine (states30_bad a6 c6 _ _ _ HF0.out).mono ?_
          rintro e59 w59 ⟨rfl, hb⟩
          have HB59 := Lib.hid (HB58.out.trans (hb.mono HB58.out.size))
          have HX59 := Lib.hid (HX58.out.later hb)
          have HS2n := Lib.hid (HS2.out.later hb)
          clear HS2
          have HS2 := HS2n
          clear HS2n
          have HP2n := Lib.hid (HP2.out.later hb)
          clear HP2
          have HP2 := HP2n
          clear HP2n
          clear hb x0 x1 xf xz HB58 HX58
          obtain ⟨x0, x1, xf, xz⟩ := HX59.out.v2
          go_wp2_with fail
          go_ret
          exact ⟨rfl, HB59.out⟩
end Go.Proofs.YtahpdkkpnkhnhaaGreatDoor
