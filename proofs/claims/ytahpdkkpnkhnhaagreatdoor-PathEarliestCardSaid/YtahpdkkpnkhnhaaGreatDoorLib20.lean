/- Lemmas on the way to the laws (part 20): Cm Cn Co Cp Cq Da Db -/
import Derived.Test.YtahpdkkpnkhnhaaGreatDoorLib19
set_option linter.unusedVariables false
set_option linter.unusedSimpArgs false

/- Walks: Route: from the three arrays on. -/
namespace Go.Proofs.YtahpdkkpnkhnhaaGreatDoor
open Go Go.Proofs Go.RowKit Go.Shelf

noncomputable def t18 : Code := codeR (codeR (codeR (codeR (Tryz.f18.body.getD .skip))))
noncomputable def r9 : Code := codeL t18
noncomputable def r10 : Code := codeL (codeR t18)
noncomputable def r11 : Code := codeL (codeR (codeR t18))
theorem t18_eq : t18 = .seq r9 (.seq r10 (.seq r11 (.seq blk18 rest18))) := rfl
def start18 (fr : Int) : RtS := ⟨(List.replicate 64 0).set fr.toNat 1, List.replicate 64 0, List.replicate 64 false⟩

set_option maxRecDepth 100000 in
set_option maxHeartbeats 1000000 in
theorem r9_walk (N : Nat) (fr : Int) (W : World) (B : Code) (z : Nat → Value) (Q : Exit → Act → World → Prop)
    (hQ : ∀ z' (be bf dn : Array Value), be.toList = ints (List.replicate 64 0) → bf.toList = ints (List.replicate 64 0) → dn.toList = (List.replicate 64 false).map Value.bool →
      B.wp Tryz.prog Q { tmps := (fr18 N W.heap.size fr z').toArray, defers := [] } (((W.alloc (.cells be 117)).alloc (.cells bf 117)).alloc (.cells dn 118))) :
    (Code.seq r9 (.seq r10 B)).wp Tryz.prog Q { tmps := (fr18p N fr z).toArray, defers := [] } W := by
  have HQ : Hid (∀ A W' (be bf dn : Array Value), (∃ z', A = { tmps := (fr18 N W.heap.size fr z').toArray, defers := [] }) → be.toList = ints (List.replicate 64 0) → bf.toList = ints (List.replicate 64 0) → dn.toList = (List.replicate 64 false).map Value.bool →
      W' = (((W.alloc (.cells be 117)).alloc (.cells bf 117)).alloc (.cells dn 118)) → B.wp Tryz.prog Q A W') := Lib.hid (by rintro A W' be bf dn ⟨z', rfl⟩ h1 h2 h3 rfl; exact hQ z' be bf dn h1 h2 h3)
  clear hQ
  simp only [r9, r10, t18, Tryz.f18, Option.getD, codeL, codeR, fr18p]
  go_wp2_with fail
  refine HQ.out _ _ _ _ _ ?_ ?_ ?_ ?_ rfl
  · apply fr18_act <;> rfl
  · kernel_rfl
  · kernel_rfl
  · kernel_rfl

set_option maxRecDepth 100000 in
set_option maxHeartbeats 1000000 in
theorem r11_walk (N bb : Nat) (fr : Nat) (W : World) (be : List Int) (hbe : Box W bb 117 (ints be)) (hl : be.length = 64) (hfr : fr < 64) (B : Code) (z : Nat → Value) (Q : Exit → Act → World → Prop)
    (hQ : ∀ z', B.wp Tryz.prog Q { tmps := (fr18 N bb fr z').toArray, defers := [] } (W.setCell ⟨bb, fr, none⟩ (.int .i64 1))) :
    (Code.seq r11 B).wp Tryz.prog Q { tmps := (fr18 N bb fr z).toArray, defers := [] } W := by
  have HQ : Hid (∀ A W', (∃ z', A = { tmps := (fr18 N bb fr z').toArray, defers := [] }) → W' = W.setCell ⟨bb, fr, none⟩ (.int .i64 1) → B.wp Tryz.prog Q A W') := Lib.hid (by rintro A W' ⟨z', rfl⟩ rfl; exact hQ z')
  clear hQ
  have c0 : W.cell? ⟨bb, fr, none⟩ = some (.int .i64 (be.getD fr 0)) := (hbe.cell fr).trans (ints_get (by rw [hl]; exact hfr))
  have cf := hbe.frozen
  have f0 : (0 : Int) ≤ fr ∧ (fr : Int) < 64 := by omega
  obtain ⟨f0, f1⟩ := f0
  clear hbe
  simp only [r11, t18, Tryz.f18, Option.getD, codeL, codeR, fr18]
  go_wp2_with fail
  refine HQ.out _ _ ?_ rfl
  apply fr18_act <;> rfl

set_option maxHeartbeats 1000000 in
theorem t18_walk (w W : World) (c1 b1 off1 : Nat) (v2 vb : Value) (p : Pl) (bl : List Int) (to : Int) (fr : Nat) (sf : RtS) (f n : Nat) (hf : runR p bl to f (start18 fr) = some sf) (hf9 : f ≤ 900) (hto : 0 ≤ to ∧ to < 64) (hfr : fr < 64)
    (hn : pickTo sf p.ms.length = to → atK sf.before to n = fr ∧ (∀ k, k < n → atK sf.before to k ≠ fr) ∧ n ≤ 100000)
    (hok : OkP p) (hwd : WdR w) (hbl : Sl encI 1 w w.heap.size vb bl) (hbb : b1 < w.heap.size) (hat : ∀ k (h : k < p.ms.length), At w b1 (off1 + k * 2) [.string p.ms[k].kind, .int .i64 p.ms[k].time])
    (hnc : p.ms.length ≤ c1 ∧ True) (har : Sl Ar.enc 2 w w.heap.size v2 p.arcs)
    (hpx : Box W w.heap.size 25 [.slice (some ⟨b1, off1, none⟩) p.ms.length c1, v2]) (htx : Box W (w.heap.size + 1) 3 [.int .i64 to]) (hkx : Box W (w.heap.size + 1 + 1) 26 [vb]) (hbw : Below w.heap.size w W) (z : Nat → Value) (Q : Exit → Act → World → Prop)
    (h7 : pickTo sf p.ms.length < 0 → ∀ A W' Ds, A.defers = marksOf Ds → A.tmps[8]? = some (.slice none 0 0) → A.tmps[9]? = some (.int .i64 7) → A.tmps.size = 173 → MarksIn W' Ds → Ds.Nodup → (∀ D ∈ Ds, w.heap.size ≤ D) → Below w.heap.size w W' → Q .ret A W')
    (h0 : pickTo sf p.ms.length = to → ∀ A W' Ds v, A.defers = marksOf Ds → A.tmps[8]? = some v → A.tmps[9]? = some (.int .i64 0) → A.tmps.size = 173 → MarksIn W' Ds → Ds.Nodup → (∀ D ∈ Ds, w.heap.size ≤ D) → Below w.heap.size w W' → Own encI 1 3 W' w.heap.size v (trL sf.before to n).reverse → Q .ret A W') :
    t18.wp Tryz.prog Q { tmps := (fr18p w.heap.size fr z).toArray, defers := [] } W := by
  rw [t18_eq]
  refine r9_walk _ _ _ _ _ _ fun z1 be bf dn e1 e2 e3 => ?_
  have hkz := hkx.lt
  have a1 : Below W.heap.size W (W.alloc (.cells be 117)) := (Below.refl _ _).alloc (Nat.le_refl _) _
  have x1 := Box.new W be 117
  have s1 : (W.alloc (.cells be 117)).heap.size = W.heap.size + 1 := by simp
  generalize W.alloc (.cells be 117) = W1 at *
  have a2 : Below W1.heap.size W1 (W1.alloc (.cells bf 117)) := (Below.refl _ _).alloc (Nat.le_refl _) _
  have x2 := Box.new W1 bf 117
  have s2 : (W1.alloc (.cells bf 117)).heap.size = W1.heap.size + 1 := by simp
  generalize W1.alloc (.cells bf 117) = W2 at *
  have a3 : Below W2.heap.size W2 (W2.alloc (.cells dn 118)) := (Below.refl _ _).alloc (Nat.le_refl _) _
  have x3 := Box.new W2 dn 118
  generalize W2.alloc (.cells dn 118) = W3 at *
  rw [e1] at x1
  rw [e2] at x2
  rw [e3] at x3
  rw [s2, s1] at x3
  rw [s1] at x2
  have a23 := a2.trans (a3.mono a2.size)
  have a13 := a1.trans (a23.mono a1.size)
  have hrt : RtM w W3 W.heap.size (.slice (some ⟨b1, off1, none⟩) p.ms.length c1) v2 vb to ⟨List.replicate 64 0, List.replicate 64 0, List.replicate 64 false⟩ :=
    ⟨hpx.later a13, htx.later a13, hkx.later a13, x1.later a23, x2.later a3, x3, hbw.trans (a13.mono hbw.size), hkz⟩
  refine r11_walk _ _ _ _ _ hrt.be (by simp) hfr _ _ _ fun z2 => ?_
  have hrt' := hrt.setBest fr 1
  generalize W3.setCell ⟨W.heap.size, fr, none⟩ (.int .i64 1) = W4 at *
  have hst : start18 fr = ⟨(List.replicate 64 0).set fr 1, List.replicate 64 0, List.replicate 64 false⟩ := by unfold start18; rw [Int.toNat_natCast]
  rw [← hst] at hrt'
  have hb : RtB 100000 (start18 fr) := by
    rw [hst]
    refine ⟨by simp, by simp, by simp, fun x hx => ?_, fun x hx => ?_⟩
    · rcases List.mem_or_eq_of_mem_set hx with h | rfl
      · have := List.eq_of_mem_replicate h; omega
      · omega
    · have := List.eq_of_mem_replicate hx; omega
  refine wp_seq ?_
  refine blk18_walk w W4 W.heap.size c1 b1 off1 v2 vb p bl to fr _ sf f hf hf9 hto.1 z2 hok hwd hbl hbb hat hnc har hrt' hb _ ?_ ?_
  · intro hneg A W' Ds k1 k2 k3 k4 k5 k6 k7 k8
    simp only [Exit.then]
    exact h7 hneg A W' Ds k1 k2 k3 k4 k6 k7 k8 k5.bw
  · intro _ he z' W' Ds M _ k5 k6 k7 k8 k9
    simp only [Exit.then]
    obtain ⟨n1, n2, n3⟩ := hn he
    refine rest18_walk w W' _ _ _ _ to fr sf M k5 k6 hto n n1 n2 n3 Ds z' Q ?_
    intro A W5 v m1 m2 m3 m4 m5 m6
    exact h0 he A W5 Ds v m1 m2 m3 m4 (k7.later m6) k8 k9 (k5.bw.trans (m6.mono k5.bw.size)) (m5.lower k5.bw.size)
end Go.Proofs.YtahpdkkpnkhnhaaGreatDoor

/- Walks: Route. -/
namespace Go.Proofs.YtahpdkkpnkhnhaaGreatDoor
open Go Go.Proofs Go.RowKit Go.Shelf

theorem rt_end {w W : World} {Ds : List Nat} {A : Act} {v : Value} {c : Int} {L : List Int} (h8 : A.tmps[8]? = some v) (h9 : A.tmps[9]? = some (.int .i64 c)) (hd : A.defers = marksOf Ds) (hm : MarksIn W Ds) (hn : Ds.Nodup) (hD : ∀ D ∈ Ds, w.heap.size ≤ D)
    (hO : Own encI 1 3 W w.heap.size v L) (hb : Below w.heap.size w W) {R : Ending → World → Prop} (hR : ∀ W', Own encI 1 3 W' w.heap.size v L → Below w.heap.size w W' → R (.returned (.tuple #[v, .int .i64 c])) W') :
    bodyPostM Fence.wide 9 Tryz.prog Tryz.f18 R .ret A W := by
  show LeavesInM Fence.wide 9 Tryz.prog Tryz.f18 A.tmps R A.defers .returning W
  rw [hd]
  refine leaves_marks (w0s := w.heap.size) (v := .tuple #[v, .int .i64 c]) (fun W => by rw [results_tmp2 (t := 8) (u := 9) rfl]; simp [Array.getD_eq_getD_getElem?, h8, h9]) (fun W' => Own encI 1 3 W' w.heap.size v L ∧ Below w.heap.size w W') ?_ (fun W h => hR W h.1 h.2) Ds W hn hm hD ⟨hO, hb⟩
  rintro W D o ⟨h1, h2⟩ ho hc hND
  have hg := grownBy_putObj' W D (.deferred none)
  have hno : NoCells W (some D) := fun r e => by cases e; exact ⟨o, ho, hc⟩
  exact ⟨h1.kept hg (hno.own h1), h2.grown hg h2.size fun k e => by cases e; exact hND⟩

/-- What Route answers. -/
def RtPost (w : World) (L : List Int) (c : Int) (e : Ending) (w' : World) : Prop := ∃ v, e = .returned (.tuple #[v, .int .i64 c]) ∧ Own encI 1 3 w' w.heap.size v L ∧ Below w.heap.size w w'
noncomputable def p1_18 : Code := codeL (codeR (Tryz.f18.body.getD .skip))
noncomputable def p2_18 : Code := codeL (codeR (codeR (Tryz.f18.body.getD .skip)))
noncomputable def p3_18 : Code := codeL (codeR (codeR (codeR (Tryz.f18.body.getD .skip))))
noncomputable def r0_18 : Code := codeL (Tryz.f18.body.getD .skip)
noncomputable def t5_18 : Code := codeR p2_18
theorem f18_body : Tryz.f18.body = some (.seq r0_18 (.seq p1_18 (.seq (.seq r4 t5_18) (.seq p3_18 t18)))) := rfl


/-- The three variables that the call keeps in memory. -/
structure In18 (w W : World) (v1 v2 vb : Value) (to : Int) : Prop where
  px : Box W w.heap.size 25 [v1, v2]
  tx : Box W (w.heap.size + 1) 3 [.int .i64 to]
  kx : Box W (w.heap.size + 1 + 1) 26 [vb]
  bw : Below w.heap.size w W
theorem In18.later {w W W' : World} {v1 v2 vb : Value} {to : Int} (h : In18 w W v1 v2 vb to) (hb : Below W.heap.size W W') : In18 w W' v1 v2 vb to :=
  ⟨h.px.later hb, h.tx.later hb, h.kx.later hb, h.bw.trans (hb.mono h.bw.size)⟩

set_option maxRecDepth 100000 in
set_option maxHeartbeats 1000000 in
theorem t5_walk (N : Nat) (fr u : Int) (W : World) (B : Code) (z : Nat → Value) (Q : Exit → Act → World → Prop)
    (hbad : u ≠ 0 → ∀ A, A.defers = [] → A.tmps[8]? = some (.slice none 0 0) → A.tmps[9]? = some (.int .i64 u) → Q .ret A W)
    (hgo : u = 0 → ∀ z', B.wp Tryz.prog Q { tmps := (fr18p N fr z').toArray, defers := [] } W) :
    t5_18.wp Tryz.prog (Exit.then (B.wp Tryz.prog Q) Q) { tmps := (fr18q N fr u z).toArray, defers := [] } W := by
  by_cases hu : u = 0
  · have HG : Hid (∀ A, (∃ z', A = { tmps := (fr18p N fr z').toArray, defers := [] }) → B.wp Tryz.prog Q A W) := Lib.hid (by rintro A ⟨z', rfl⟩; exact hgo hu z')
    clear hgo hbad
    subst hu
    simp only [t5_18, p2_18, Tryz.f18, Option.getD, codeL, codeR, fr18q]
    go_wp2_with fail
    refine HG.out _ ?_
    apply fr18p_act <;> rfl
  · have HB := Lib.hid (hbad hu)
    have k1 : (u == 0) = false := beq_eq_false_iff_ne.2 hu
    clear hgo hbad
    simp only [t5_18, p2_18, Tryz.f18, Option.getD, codeL, codeR, fr18q]
    go_wp2_with fail
    exact HB.out _ rfl rfl rfl

set_option maxRecDepth 100000 in
set_option maxHeartbeats 1000000 in
theorem p3_walk (w W : World) (a1 : Option Addr) (c1 : Nat) (v2 vb : Value) (p : Pl) (bl : List Int) (fr to : Nat) (hwd : WdR w) (hbl : Sl encI 1 w w.heap.size vb bl) (hms : Sl Mc.enc 2 w w.heap.size (.slice a1 p.ms.length c1) p.ms) (hin : In18 w W (.slice a1 p.ms.length c1) v2 vb to) (hfr : fr < p.ms.length) (hto : to < p.ms.length) (hle : p.ms.length ≤ 64)
    (B : Code) (z : Nat → Value) (Q : Exit → Act → World → Prop) (R : Bool) (hR : R = (fr == to || !bgB (kdA p fr) || !enB (kdA p to) || bl.contains (fr : Int) || bl.contains (to : Int)))
    (hbad : R = true → ∀ A W', A.defers = [] → A.tmps[8]? = some (.slice none 0 0) → A.tmps[9]? = some (.int .i64 7) → Below W.heap.size W W' → Q .ret A W')
    (hgo : R = false → ∀ z' W', Below W.heap.size W W' → B.wp Tryz.prog Q { tmps := (fr18p w.heap.size fr z').toArray, defers := [] } W') :
    (Code.seq p3_18 B).wp Tryz.prog Q { tmps := (fr18p w.heap.size fr z).toArray, defers := [] } W := by
  have hpos : 0 < p.ms.length := by omega
  obtain ⟨a, c, e1, ⟨_, hc⟩, hA⟩ := hms
  obtain ⟨b1, off1, rfl, hbb, hat⟩ := hA hpos
  obtain ⟨e2, _, e3⟩ := Value.slice.inj e1
  subst e2 e3
  have HBG := Lib.hid (fun (W' : World) (hb : Below W.heap.size W W') => begins80 p.ms[fr].kind p.ms[fr].time W' (hwd.later (hin.bw.trans (hb.mono hin.bw.size))))
  have HEN := Lib.hid (fun (W' : World) (hb : Below W.heap.size W W') => ends81 p.ms[to].kind p.ms[to].time W' (hwd.later (hin.bw.trans (hb.mono hin.bw.size))))
  have HC1 := Lib.hid (fun (W' : World) (hb : Below W.heap.size W W') => contains82 vb bl fr W' (hbl.later (hin.bw.trans (hb.mono hin.bw.size))))
  have HC2 := Lib.hid (fun (W' : World) (hb : Below W.heap.size W W') => contains82 vb bl to W' (hbl.later (hin.bw.trans (hb.mono hin.bw.size))))
  have HIN := Lib.hid (fun (W' : World) (hb : Below W.heap.size W W') => hin.later hb)
  have HAF := Lib.hid (fun (W' : World) (hb : Below W.heap.size W W') => ((hat fr hfr).below (hin.bw.trans (hb.mono hin.bw.size)) hbb).c2)
  have HAT := Lib.hid (fun (W' : World) (hb : Below W.heap.size W W') => ((hat to hto).below (hin.bw.trans (hb.mono hin.bw.size)) hbb).c2)
  rw [kdA_nat hfr, kdA_nat hto] at hR
  have HB := Lib.hid hbad
  have HG : Hid (R = false → ∀ A W', (∃ z', A = { tmps := (fr18p w.heap.size fr z').toArray, defers := [] }) → Below W.heap.size W W' → B.wp Tryz.prog Q A W') := Lib.hid (by rintro h A W' ⟨z', rfl⟩ k; exact hgo h z' W' k)
  obtain ⟨A1, hA1⟩ : ∃ b, ((fr : Int) == (to : Int)) = b := ⟨_, rfl⟩
  have hA1' : (fr == to) = A1 := by rw [← hA1]; exact Bool.eq_iff_iff.2 (by simp only [beq_iff_eq]; omega)
  obtain ⟨A2, hA2⟩ : ∃ b, bgB p.ms[fr].kind = b := ⟨_, rfl⟩
  obtain ⟨A3, hA3⟩ : ∃ b, enB p.ms[to].kind = b := ⟨_, rfl⟩
  obtain ⟨A4, hA4⟩ : ∃ b, bl.contains (fr : Int) = b := ⟨_, rfl⟩
  obtain ⟨A5, hA5⟩ : ∃ b, bl.contains (to : Int) = b := ⟨_, rfl⟩
  rw [hA2] at HBG
  rw [hA3] at HEN
  rw [hA4] at HC1
  rw [hA5] at HC2
  rw [hA1', hA2, hA3, hA4, hA5] at hR
  have HR := Lib.hid hR
  obtain ⟨x0, x1, xf, xz⟩ := hin.px.v2
  have t0 := hin.tx.cell 0
  have tz := hin.tx.lt
  simp only [List.getElem?_cons_zero] at t0
  obtain ⟨f0, f1⟩ := HAF.out W (Below.refl _ _)
  have b1z : b1 < W.heap.size := Nat.lt_of_lt_of_le hbb hin.bw.size
  have hfr64 : (fr : Int) < 64 := by omega
  have hto64 : (to : Int) < 64 := by omega
  generalize p.ms[fr].kind = kf at *
  generalize p.ms[to].kind = kt at *
  generalize p.ms[fr].time = tf at *
  generalize p.ms[to].time = tt at *
  clear hbad hgo hR hA1' hA2 hA3 hA4 hA5 hat hA hwd hbl hin
  generalize p.ms.length = n at *
  simp only [p3_18, Tryz.f18, Option.getD, codeL, codeR, fr18p]
  cases A1
  rotate_left
  · go_wp2_with fail
    exact HB.out HR.out _ _ rfl rfl rfl (Below.refl _ _)
  go_wp2_with fail
  refine (HBG.out _ (Below.refl _ _)).mono ?_
  rintro e W2 ⟨rfl, hb2⟩
  cases A2
  · go_wp2_with fail
    exact HB.out HR.out _ _ rfl rfl rfl hb2
  clear x0 x1 xf xz t0 tz f0 f1
  obtain ⟨x0, x1, xf, xz⟩ := (HIN.out _ hb2).px.v2
  have t0 := (HIN.out _ hb2).tx.cell 0
  have tz := (HIN.out _ hb2).tx.lt
  simp only [List.getElem?_cons_zero] at t0
  obtain ⟨f0, f1⟩ := HAT.out _ hb2
  have b1z : b1 < W2.heap.size := Nat.lt_of_lt_of_le b1z hb2.size
  go_wp2_with fail
  refine (HEN.out _ hb2).mono ?_
  rintro e W3 ⟨rfl, hb3⟩
  have HB3 := hb2.trans (hb3.mono hb2.size)
  cases A3
  · go_wp2_with fail
    exact HB.out HR.out _ _ rfl rfl rfl HB3
  clear x0 x1 xf xz t0 tz f0 f1
  have t0 := (HIN.out _ HB3).tx.cell 0
  have tz := (HIN.out _ HB3).tx.lt
  have k0 := (HIN.out _ HB3).kx.cell 0
  have kz := (HIN.out _ HB3).kx.lt
  simp only [List.getElem?_cons_zero] at t0 k0
  go_wp2_with fail
  refine (HC1.out _ HB3).mono ?_
  rintro e _ ⟨rfl, rfl⟩
  cases A4
  rotate_left
  · go_wp2_with fail
    exact HB.out HR.out _ _ rfl rfl rfl HB3
  go_wp2_with fail
  refine (HC2.out _ HB3).mono ?_
  rintro e _ ⟨rfl, rfl⟩
  cases A5
  rotate_left
  · go_wp2_with fail
    exact HB.out HR.out _ _ rfl rfl rfl HB3
  go_wp2_with fail
  refine HG.out HR.out _ _ ?_ HB3
  apply fr18p_act <;> rfl

set_option maxRecDepth 100000 in
set_option maxHeartbeats 1000000 in
theorem p01_walk (w : World) (v1 v2 vb : Value) (p : Pl) (fr to : Int) (hwd : WdR w) (hpl : PlR w w.heap.size v1 v2 p) (hvb : ∃ a n c, vb = .slice a n c) (B : Code) (A0 : Act) (hA : A0 = { tmps := #[Value.agg #[v1, v2], Value.int .i64 fr, Value.int .i64 to, vb] ++ Array.replicate (Tryz.f18.ntmps - #[Value.agg #[v1, v2], Value.int .i64 fr, Value.int .i64 to, vb].size) undef, defers := [] }) (Q : Exit → Act → World → Prop)
    (hbad : ckPlant p ≠ 0 → ∀ A W', A.defers = [] → A.tmps[8]? = some (.slice none 0 0) → A.tmps[9]? = some (.int .i64 (ckPlant p)) → Below w.heap.size w W' → Q .ret A W')
    (hgo : ckPlant p = 0 → ∀ z' W', In18 w W' v1 v2 vb to → B.wp Tryz.prog Q { tmps := (fr18p w.heap.size fr z').toArray, defers := [] } W') :
    (Code.seq r0_18 (.seq p1_18 B)).wp Tryz.prog Q A0 w := by
  obtain ⟨a3, n3, c3, rfl⟩ := hvb
  obtain ⟨W1, hW1⟩ : ∃ W1, ((w.alloc (.cells #[v1, v2] 25)).alloc (.cells #[.int .i64 to] 3)).alloc (.cells #[.slice a3 n3 c3] 26) = W1 := ⟨_, rfl⟩
  have hb1 : Below w.heap.size w W1 := by
    rw [← hW1]
    exact (((Below.refl _ _).alloc (Nat.le_refl _) _).alloc (by simp) _).alloc (by simp; omega) _
  have hin : In18 w W1 v1 v2 (.slice a3 n3 c3) to := by
    rw [← hW1]
    refine ⟨?_, ?_, ?_, by rw [hW1]; exact hb1⟩
    · exact ((Box.new w _ 25).alloc _).alloc _
    · have := Box.new (w.alloc (.cells #[v1, v2] 25)) #[.int .i64 to] 3
      rw [World.size_alloc] at this
      exact this.alloc _
    · have := Box.new ((w.alloc (.cells #[v1, v2] 25)).alloc (.cells #[.int .i64 to] 3)) #[.slice a3 n3 c3] 26
      rw [World.size_alloc, World.size_alloc] at this
      exact this
  have HI := Lib.hid hin
  have HP := Lib.hid (ckPlant32 W1 v1 v2 p (hwd.later hb1) (hpl.later hb1))
  obtain ⟨e, he⟩ : ∃ e, ckPlant p = e := ⟨_, rfl⟩
  rw [he] at HP hbad hgo
  have HB := Lib.hid hbad
  have HG : Hid (e = 0 → ∀ A W', (∃ z', A = { tmps := (fr18p w.heap.size fr z').toArray, defers := [] }) → In18 w W' v1 v2 (.slice a3 n3 c3) to → B.wp Tryz.prog Q A W') := Lib.hid (by rintro h A W' ⟨z', rfl⟩ k; exact hgo h z' W' k)
  obtain ⟨a1, n1, c1, rfl⟩ : ∃ a n c, v1 = .slice a n c := by obtain ⟨a, c, e, _⟩ := hpl.ms; exact ⟨a, _, c, e⟩
  obtain ⟨a2, n2, c2, rfl⟩ : ∃ a n c, v2 = .slice a n c := by obtain ⟨a, c, e, _⟩ := hpl.arcs; exact ⟨a, _, c, e⟩
  obtain ⟨x0, x1, xf, xz⟩ := hin.px.v2
  have HW1 := Lib.hid hW1
  clear hbad hgo hin hb1 hpl hwd he hW1
  subst hA
  have c0 : (W1.cell? ⟨w.heap.size, 0, none⟩) = _ := x0
  by_cases h0 : e = 0
  · have HG2 := Lib.hid (HG.out h0)
    clear HG HB x0 x1 c0 xf
    subst h0
    simp only [Tryz.ntmps18, List.size_toArray, List.length_cons, List.length_nil, Nat.reduceAdd, Nat.reduceSub, Array.replicate_succ, Array.replicate_zero, List.push_toArray, List.append_toArray, List.nil_append, List.cons_append]
    simp only [r0_18, p1_18, Tryz.f18, Option.getD, codeL, codeR]
    go_wp2_with fail
    rw [HW1.out]
    refine HP.out.mono ?_
    rintro e w5 ⟨rfl, hb5⟩
    go_wp2_with fail
    refine HG2.out _ _ ?_ (HI.out.later hb5)
    apply fr18p_act <;> rfl
  · have HB2 := Lib.hid (HB.out h0)
    have k1 : (e == 0) = false := beq_eq_false_iff_ne.2 h0
    clear HG HB x0 x1 c0 xf
    simp only [Tryz.ntmps18, List.size_toArray, List.length_cons, List.length_nil, Nat.reduceAdd, Nat.reduceSub, Array.replicate_succ, Array.replicate_zero, List.push_toArray, List.append_toArray, List.nil_append, List.cons_append]
    simp only [r0_18, p1_18, Tryz.f18, Option.getD, codeL, codeR]
    go_wp2_with fail
    rw [HW1.out]
    refine HP.out.mono ?_
    rintro e w5 ⟨rfl, hb5⟩
    go_wp2_with fail
    exact HB2.out _ _ rfl rfl rfl (HI.out.later hb5).bw


/-- What Route does. -/
def RtOut (p : Pl) (bl : List Int) (fr to : Int) (L : List Int) (c : Int) : Prop :=
  (ckPlant p ≠ 0 ∧ L = [] ∧ c = ckPlant p) ∨ (ckPlant p = 0 ∧ ((unkE p.ms.length (fr :: to :: bl) ≠ 0 ∧ L = [] ∧ c = unkE p.ms.length (fr :: to :: bl)) ∨
    (unkE p.ms.length (fr :: to :: bl) = 0 ∧ (((fr == to || !bgB (kdA p fr) || !enB (kdA p to) || bl.contains fr || bl.contains to) = true ∧ L = [] ∧ c = 7) ∨
      ((fr == to || !bgB (kdA p fr) || !enB (kdA p to) || bl.contains fr || bl.contains to) = false ∧ ∃ f sf, f ≤ 900 ∧ runR p bl to f (start18 fr) = some sf ∧
        ((pickTo sf p.ms.length < 0 ∧ L = [] ∧ c = 7) ∨ (¬ pickTo sf p.ms.length < 0 ∧ ∃ n, n ≤ 100000 ∧ atK sf.before to n = fr ∧ (∀ k, k < n → atK sf.before to k ≠ fr) ∧ L = (trL sf.before to n).reverse ∧ c = 0)))))))

theorem unk_in18 {n : Nat} {l : List Int} (h : unkE n l = 0) : ∀ x ∈ l, 0 ≤ x ∧ x < n := by
  intro x hx
  unfold unkE at h
  split at h
  · cases h
  · rename_i hn
    have := List.any_eq_false.1 (by simpa using hn : l.any (fun x => !inN n x) = false) x hx
    unfold inN at this
    simpa using this

set_option maxHeartbeats 1000000 in
theorem route18 (w : World) (v1 v2 vb : Value) (p : Pl) (bl : List Int) (fr to : Int) (hwd : WdR w) (hpl : PlR w w.heap.size v1 v2 p) (hbl : Sl encI 1 w w.heap.size vb bl) (hbln : bl.length ≤ 100000000) (L : List Int) (c : Int) (h : RtOut p bl fr to L c) :
    Calls Tryz.prog 18 #[.agg #[v1, v2], .int .i64 fr, .int .i64 to, vb] w (RtPost w L c) := by
  refine callsIn_wide (n := 9) |>.1 ?_
  refine callsIn_of_wp_marks Tryz.func18 rfl trivial ?_ rfl
  refine wpIn_wide.2 ?_
  change Code.wp _ (.seq r0_18 (.seq p1_18 (.seq (.seq r4 t5_18) (.seq p3_18 t18)))) _ _ _
  obtain ⟨Q, hQ⟩ : ∃ Q, bodyPostM Fence.wide 9 Tryz.prog Tryz.f18 (RtPost w L c) = Q := ⟨_, rfl⟩
  have END : ∀ A W' Ds v, A.tmps[8]? = some v → A.tmps[9]? = some (.int .i64 c) → A.defers = marksOf Ds → MarksIn W' Ds → Ds.Nodup → (∀ D ∈ Ds, w.heap.size ≤ D) → Own encI 1 3 W' w.heap.size v L → Below w.heap.size w W' → Q .ret A W' := by
    intro A W' Ds v k1 k2 k3 k4 k5 k6 k7 k8
    rw [← hQ]
    exact rt_end k1 k2 k3 k4 k5 k6 k7 k8 fun W' m1 m2 => ⟨v, rfl, m1, m2⟩
  have END0 : ∀ A W', L = [] → A.tmps[8]? = some (.slice none 0 0) → A.tmps[9]? = some (.int .i64 c) → A.defers = [] → Below w.heap.size w W' → Q .ret A W' := fun A W' hL k1 k2 k3 k4 =>
    END A W' [] _ k1 k2 k3 (fun D hD => by cases hD) List.nodup_nil (fun D hD => by cases hD) (by rw [hL]; exact Own.nil _ _ _ _ _) k4
  rw [hQ]
  clear hQ
  have hvb : ∃ a n c, vb = .slice a n c := by obtain ⟨a, c, e, _⟩ := hbl; exact ⟨a, _, c, e⟩
  refine p01_walk w v1 v2 vb p fr to hwd hpl hvb _ _ rfl Q ?_ ?_
  · intro hne A W' e1 e2 e3 hb
    rcases h with ⟨_, k2, k3⟩ | ⟨k1, _⟩
    · exact END0 A W' k2 e2 (by rw [k3]; exact e3) e1 hb
    · exact absurd k1 hne
  · intro he z1 W1 hin
    rcases h with ⟨k1, _⟩ | ⟨_, h⟩
    · exact absurd he k1
    have hok := ckPlant_ok he
    obtain ⟨a1, c1, rfl, hlen, hA⟩ := id hpl.ms
    have hc1 := trivial
    refine wp_seq (wp_seq ?_)
    refine r4_walk w W1 a1 _ c1 v2 vb bl to fr hin.px hin.tx hin.kx (hbl.later hin.bw) hbln z1 _ ?_
    intro z2 W2 hb2
    have hin2 := hin.later hb2
    simp only [Exit.then]
    refine t5_walk _ fr _ W2 _ z2 Q ?_ ?_
    · intro hu A e1 e2 e3
      rcases h with ⟨_, k2, k3⟩ | ⟨k1, _⟩
      · exact END0 A W2 k2 e2 (by rw [k3]; exact e3) e1 hin2.bw
      · exact absurd k1 hu
    · intro hu z3
      rcases h with ⟨k1, _⟩ | ⟨_, h⟩
      · exact absurd hu k1
      have hfr := unk_in18 hu fr (by simp)
      have hto := unk_in18 hu to (by simp)
      obtain ⟨fn, rfl⟩ : ∃ k : Nat, fr = k := ⟨fr.toNat, by omega⟩
      obtain ⟨tn, rfl⟩ : ∃ k : Nat, to = k := ⟨to.toNat, by omega⟩
      have hple := hok.le
      have hft : (fn == tn) = ((fn : Int) == (tn : Int)) := Bool.eq_iff_iff.2 (by simp only [beq_iff_eq]; omega)
      refine p3_walk w W2 a1 c1 v2 vb p bl fn tn hwd hbl hpl.ms hin2 (by omega) (by omega) hok.le _ z3 Q _ rfl ?_ ?_
      · intro hR A W3 e1 e2 e3 hb3
        rw [hft] at hR
        rcases h with ⟨_, k2, k3⟩ | ⟨k1, _⟩
        · exact END0 A W3 k2 e2 (by rw [k3]; exact e3) e1 (hin2.later hb3).bw
        · rw [k1] at hR; cases hR
      · intro hR z4 W3 hb3
        rw [hft] at hR
        rcases h with ⟨k1, _⟩ | ⟨_, f, sf, hf9, hf, h⟩
        · rw [k1] at hR; cases hR
        have hin3 := hin2.later hb3
        obtain ⟨b1, off1, rfl, hbb, hat⟩ := hA hok.pos
        rcases h with ⟨k1, k2, k3⟩ | ⟨k1, n, n3, n1, n2, k2, k3⟩
        · refine t18_walk w W3 c1 b1 off1 v2 vb p bl tn fn sf f 0 hf hf9 (by omega) (by omega) (fun e => by omega) hok hwd hbl hbb hat ⟨hlen.2, hc1⟩ hpl.arcs hin3.px hin3.tx hin3.kx hin3.bw z4 Q ?_ ?_
          · intro _ A W4 Ds m1 m2 m3 _ m5 m6 m7 m8
            exact END A W4 Ds _ m2 (by rw [k3]; exact m3) m1 m5 m6 m7 (by rw [k2]; exact Own.nil _ _ _ _ _) m8
          · intro e; omega
        · refine t18_walk w W3 c1 b1 off1 v2 vb p bl tn fn sf f n hf hf9 (by omega) (by omega) (fun _ => ⟨n1, n2, n3⟩) hok hwd hbl hbb hat ⟨hlen.2, hc1⟩ hpl.arcs hin3.px hin3.tx hin3.kx hin3.bw z4 Q ?_ ?_
          · intro e; exact absurd e k1
          · intro _ A W4 Ds v m1 m2 m3 _ m5 m6 m7 m8 m9
            exact END A W4 Ds v m2 (by rw [k3]; exact m3) m1 m5 m6 m7 (by rw [k2]; exact m9) m8
end Go.Proofs.YtahpdkkpnkhnhaaGreatDoor

/- Walks: slices.IndexFunc and ContainsFunc, with a predicate that writes. -/
namespace Go.Proofs.YtahpdkkpnkhnhaaGreatDoor
open Go Go.Proofs Go.RowKit Go.Shelf

/-- The predicate at element k, from what holds behind k refusals. -/
def StepS (g : Nat) (lb : Array Value) (l : List Int) (I : Nat → World → Prop) (P : World → Prop) : Prop :=
  ∀ k (h : k < l.length) W, I k W → Calls Tryz.prog g (#[.int .i64 l[k]] ++ lb) W fun e W' => ∃ b, e = .returned (.bool b) ∧ ((b = false ∧ I (k + 1) W') ∨ (b = true ∧ P W'))
set_option maxRecDepth 100000 in
set_option maxHeartbeats 1000000 in
theorem indexS146 (v : Value) (l : List Int) (g : Nat) (lb : Array Value) (B : Nat) (w : World) (eg : ∀ args w, (callFunc g args).run Tryz.prog w = .ok (.enter g args) w) (hB : B ≤ w.heap.size) (hv : Sl encI 1 w B v l) (I : Nat → World → Prop) (P : World → Prop) (hI : ∀ k W, I k W → Below B w W) (hs : StepS g lb l I P) (h0 : I 0 w) :
    Calls Tryz.prog 146 #[v, .func (.func g) #[] lb] w fun e w' => ∃ n : Int, e = .returned (.int .i64 n) ∧ ((n = -1 ∧ I l.length w') ∨ (0 ≤ n ∧ P w')) := by
  obtain ⟨a, c, rfl, hlen, hA⟩ := hv
  have HA := Lib.hid hA
  clear hA
  have HS := Lib.hid hs
  clear hs
  have HI := Lib.hid hI
  clear hI
  have H0 := Lib.hid h0
  clear h0
  go_enter Tryz.func146, Tryz.ntmps146
  go_wp2_with fail
  go_loopw [8] (fun i wr => ∃ k : Nat, k ≤ l.length ∧ i = .int .i64 k ∧ I k wr) (fun i _ => l.length - (intOf i).toNat)
  case atStart => exact ⟨0, by omega, rfl, H0.out⟩
  case round =>
    obtain ⟨k, hk, rfl, hrel⟩ := hrel
    have HR := Lib.hid hrel
    clear hrel
    by_cases hlt : k < l.length
    · obtain ⟨b, off, rfl, hbb, hcells⟩ := HA.out (by omega)
      have hbe := HI.out k wr HR.out
      have c0 := ((hcells k hlt).below hbe hbb).c1
      rw [Nat.mul_one] at c0
      have hb := HS.out k hlt wr HR.out
      have hbz : b < wr.heap.size := by have := hbe.size; omega
      clear hcells HA hbe
      generalize l[k] = x at *
      have HB := Lib.hid hb
      clear hb
      go_wp2_with fail
      refine HB.out.mono ?_
      rintro e w' ⟨y, rfl, hy⟩
      have HY := Lib.hid hy
      clear hy
      cases y
      · go_wp2_with fail
        go_roundw
        case rel => exact ⟨k + 1, by omega, by go_num, by rcases HY.out with ⟨_, h⟩ | ⟨h, _⟩; exact h; cases h⟩
        case measure => simp [intOf]; omega
      · go_wp2_with fail
        go_ret
        refine ⟨k, rfl, .inr ⟨by omega, ?_⟩⟩
        rcases HY.out with ⟨h, _⟩ | ⟨_, h⟩
        · cases h
        · exact h
    · obtain rfl : l.length = k := by omega
      go_wp2_with fail
      go_ret
      exact ⟨-1, rfl, .inl ⟨rfl, HR.out⟩⟩
set_option maxRecDepth 100000 in
set_option maxHeartbeats 1000000 in
theorem containsS111 (v : Value) (l : List Int) (g : Nat) (lb : Array Value) (B : Nat) (w : World) (eg : ∀ args w, (callFunc g args).run Tryz.prog w = .ok (.enter g args) w) (hB : B ≤ w.heap.size) (hv : Sl encI 1 w B v l) (I : Nat → World → Prop) (P : World → Prop) (hI : ∀ k W, I k W → Below B w W) (hs : StepS g lb l I P) (h0 : I 0 w) :
    Calls Tryz.prog 111 #[v, .func (.func g) #[] lb] w fun e w' => ∃ b : Bool, e = .returned (.bool b) ∧ ((b = false ∧ I l.length w') ∨ (b = true ∧ P w')) := by
  have H := Lib.hid (indexS146 v l g lb B w eg hB hv I P hI hs h0)
  clear hv hs hI h0 eg
  go_enter Tryz.func111, Tryz.ntmps111
  go_wp2_with (go_at_call 146; refine H.out.mono ?_; rintro e w' ⟨n, rfl, hn⟩)
  go_ret
  rcases hn with ⟨rfl, h⟩ | ⟨h1, h2⟩
  · exact ⟨false, rfl, .inl ⟨rfl, h⟩⟩
  · exact ⟨true, by rw [show decide (0 ≤ n) = true from decide_eq_true h1]; rfl, .inr ⟨rfl, h2⟩⟩
end Go.Proofs.YtahpdkkpnkhnhaaGreatDoor

/- Plain: the search of Route ends, and so does its way back. -/
namespace Go.Proofs.YtahpdkkpnkhnhaaGreatDoor
open Go Go.Proofs Go.RowKit Go.Shelf

theorem pickTo_open (s : RtS) : ∀ k, 0 ≤ pickTo s k → s.done.getD (pickTo s k).toNat false = false ∧ 0 < s.best.getD (pickTo s k).toNat 0
  | 0 => fun h => by simp [pickTo] at h
  | k + 1 => fun h => by
    unfold pickTo pickS at h ⊢
    split
    · rename_i hc
      rw [Int.toNat_natCast]
      exact ⟨hc.2.1, hc.1⟩
    · rename_i hc
      rw [if_neg hc] at h
      exact pickTo_open s k h
theorem relax_done (p : Pl) (bl : List Int) (to m : Int) (s : RtS) (x : Int) : (relax p bl to m s x).done = s.done := by
  unfold relax; split <;> rfl
theorem relaxs_done (p : Pl) (bl : List Int) (to m : Int) : ∀ (l : List Int) (s : RtS), (l.foldl (relax p bl to m) s).done = s.done
  | [], _ => rfl
  | x :: l, s => by rw [List.foldl_cons, relaxs_done p bl to m l, relax_done]
theorem roundR_done (p : Pl) (bl : List Int) (to : Int) (s : RtS) : (roundR p bl to s).done = s.done.set (pickTo s p.ms.length).toNat true := by
  unfold roundR; rw [relaxs_done]
theorem runR_ends (p : Pl) (bl : List Int) (to : Int) (hp : p.ms.length ≤ 64) : ∀ (n : Nat) (s : RtS), s.done.length = 64 → s.done.count false ≤ n → ∃ sf, runR p bl to (n + 1) s = some sf
  | n, s, hl, hc => by
    unfold runR
    split
    · exact ⟨s, rfl⟩
    · rename_i hno
      have hge : 0 ≤ pickTo s p.ms.length := by omega
      obtain ⟨h1, h2⟩ := pickTo_bd s p.ms.length
      have ho := (pickTo_open s _ hge).1
      have hlt : (pickTo s p.ms.length).toNat < s.done.length := by omega
      have hat : s.done[(pickTo s p.ms.length).toNat]? = some false := by
        rw [List.getD_eq_getElem?_getD, List.getElem?_eq_getElem hlt] at ho
        rw [List.getElem?_eq_getElem hlt]
        simpa using ho
      have hcs := cnt_set s.done _ hat
      match n with
      | 0 => omega
      | n + 1 => exact runR_ends p bl to hp n (roundR p bl to s) (by rw [roundR_done, List.length_set, hl]) (by rw [roundR_done]; omega)
/-- 65 rounds are enough. -/
theorem runR_start (p : Pl) (bl : List Int) (to : Int) (hp : p.ms.length ≤ 64) (fr : Int) : ∃ sf, runR p bl to 65 (start18 fr) = some sf :=
  runR_ends p bl to hp 64 _ (by simp [start18]) (by simp [start18])
end Go.Proofs.YtahpdkkpnkhnhaaGreatDoor

/- Plain: the search of CheckCut. -/
namespace Go.Proofs.YtahpdkkpnkhnhaaGreatDoor
open Go Go.Proofs Go.RowKit Go.Shelf

/-- The machines that come, one by one, until one answers yes. -/
def goN (V : List Bool → Int → Option (Bool × List Bool)) (ok : Int → Bool) : List Int → List Bool → Option (Bool × List Bool)
  | [], s => some (false, s)
  | x :: r, s => if ok x then (match V s x with
      | some (true, s') => some (true, s')
      | some (false, s') => goN V ok r s'
      | none => none) else goN V ok r s
/-- The closure of CheckCut, so many calls deep at most. -/
def visN (p : Pl) (cut ends starts : List Int) : Nat → List Bool → Int → Option (Bool × List Bool)
  | 0, _, _ => none
  | f + 1, s, m => if (s.getD m.toNat false || cut.contains m) = true then some (false, s) else
    if ends.contains m = true then some (true, s.set m.toNat true) else
    if (!cvB (kdA p m) && !starts.contains m) = true then some (false, s.set m.toNat true) else
    goN (visN p cut ends starts f) (fun x => cvB (kdA p x) || ends.contains x) (nextL p m) (s.set m.toNat true)
theorem goN_some {V : List Bool → Int → Option (Bool × List Bool)} {ok : Int → Bool} {n : Nat} (hV : ∀ s x, s.length = 64 → s.count false ≤ n → 0 ≤ x ∧ x < 64 → ∃ b s', V s x = some (b, s') ∧ s'.length = 64 ∧ s'.count false ≤ s.count false) :
    ∀ (l : List Int) (s : List Bool), (∀ x ∈ l, 0 ≤ x ∧ x < 64) → s.length = 64 → s.count false ≤ n → ∃ b s', goN V ok l s = some (b, s') ∧ s'.length = 64 ∧ s'.count false ≤ s.count false
  | [], s, _, h1, _ => ⟨false, s, rfl, h1, Nat.le_refl _⟩
  | x :: r, s, hl, h1, h2 => by
    unfold goN
    split
    · obtain ⟨b, s', e, k1, k2⟩ := hV s x h1 h2 (hl x (by simp))
      rw [e]
      cases b with
      | true => exact ⟨true, s', rfl, k1, k2⟩
      | false =>
        obtain ⟨b, s'', e', m1, m2⟩ := goN_some hV r s' (fun y hy => hl y (by simp [hy])) k1 (by omega)
        exact ⟨b, s'', e', m1, by omega⟩
    · exact goN_some hV r s (fun y hy => hl y (by simp [hy])) h1 h2
theorem nextL_in {p : Pl} (hok : OkP p) {m x : Int} (h : x ∈ nextL p m) : 0 ≤ x ∧ x < 64 := by
  unfold nextL at h
  obtain ⟨a, ha, rfl⟩ := List.mem_map.1 h
  have h2 := (hok.ins a (List.mem_filter.1 ha).1).2.1
  have := hok.le
  unfold inN at h2
  simp at h2
  omega
/-- As many calls deep as there are machines not yet seen, and one. -/
theorem visN_some {p : Pl} (hok : OkP p) (cut ends starts : List Int) : ∀ (n : Nat) (s : List Bool) (m : Int), s.length = 64 → s.count false ≤ n → 0 ≤ m ∧ m < 64 →
    ∃ b s', visN p cut ends starts (n + 1) s m = some (b, s') ∧ s'.length = 64 ∧ s'.count false ≤ s.count false
  | n, s, m, h1, h2, hm => by
    unfold visN
    split
    · exact ⟨false, s, rfl, h1, Nat.le_refl _⟩
    · rename_i hno
      have hlt : m.toNat < s.length := by omega
      have hs : s.getD m.toNat false = false := by
        cases h : s.getD m.toNat false with
        | false => rfl
        | true => rw [h] at hno; simp at hno
      have hat : s[m.toNat]? = some false := by
        rw [List.getD_eq_getElem?_getD, List.getElem?_eq_getElem hlt] at hs
        rw [List.getElem?_eq_getElem hlt]
        simpa using hs
      have hcs := cnt_set s _ hat
      have hl : (s.set m.toNat true).length = 64 := by rw [List.length_set, h1]
      split
      · exact ⟨true, _, rfl, hl, by omega⟩
      · split
        · exact ⟨false, _, rfl, hl, by omega⟩
        · match n with
          | 0 => omega
          | n + 1 =>
            obtain ⟨b, s', e, k1, k2⟩ := goN_some (ok := fun x => cvB (kdA p x) || ends.contains x) (n := n) (fun s x a b c => visN_some hok cut ends starts n s x a b c) (nextL p m) (s.set m.toNat true) (fun x hx => nextL_in hok hx) hl (by omega)
            exact ⟨b, s', e, k1, by omega⟩
end Go.Proofs.YtahpdkkpnkhnhaaGreatDoor

/- Walks: exit and entry: the two nodes of a machine. -/
namespace Go.Proofs.YtahpdkkpnkhnhaaGreatDoor
open Go Go.Proofs Go.RowKit Go.Shelf

set_option maxRecDepth 100000 in
set_option maxHeartbeats 400000 in
theorem exit120 (x : Int) (w : World) (hx : 0 ≤ x ∧ x ≤ 1000000) : Calls Tryz.prog 120 #[.int .i64 x] w fun e w' => e = .returned (.int .i64 (2 * x + 1)) ∧ w' = w := by
  obtain ⟨h1, h2⟩ := hx
  have k1 : IntKind.i64.wrap (2 * x) = 2 * x := IntWalk.i64_in _ (by omega)
  have k2 : IntKind.i64.wrap (2 * x + 1) = 2 * x + 1 := IntWalk.i64_in _ (by omega)
  go_enter Tryz.func120, Tryz.ntmps120
  go_wp2_with fail
  go_ret
  exact ⟨by first | rfl | simp [k1, k2], rfl⟩
set_option maxRecDepth 100000 in
set_option maxHeartbeats 400000 in
theorem entry121 (x : Int) (w : World) (hx : 0 ≤ x ∧ x ≤ 1000000) : Calls Tryz.prog 121 #[.int .i64 x] w fun e w' => e = .returned (.int .i64 (2 * x)) ∧ w' = w := by
  obtain ⟨h1, h2⟩ := hx
  have k1 : IntKind.i64.wrap (2 * x) = 2 * x := IntWalk.i64_in _ (by omega)
  go_enter Tryz.func121, Tryz.ntmps121
  go_wp2_with fail
  go_ret
  exact ⟨by first | rfl | simp [k1], rfl⟩
end Go.Proofs.YtahpdkkpnkhnhaaGreatDoor

/- Walks: the two closures of checkEnds. -/
namespace Go.Proofs.YtahpdkkpnkhnhaaGreatDoor
open Go Go.Proofs Go.RowKit Go.Shelf

set_option maxRecDepth 100000 in
set_option maxHeartbeats 400000 in
theorem in159 (v : Value) (l : List Int) (x : Int) (q : Nat) (w : World) (hq : Box w q 26 [v]) (hv : Sl encI 1 w w.heap.size v l) : Calls Tryz.prog 159 (#[.int .i64 x] ++ #[.pointer (some ⟨q, 0, none⟩)]) w (Ret (.bool (l.contains x)) w) := by
  have c0 := hq.cell 0
  have cz := hq.lt
  simp only [List.getElem?_cons_zero] at c0
  have H := Lib.hid (contains82 v l x w hv)
  obtain ⟨R, hR⟩ : ∃ R, l.contains x = R := ⟨_, rfl⟩
  rw [hR] at H ⊢
  clear hR hq hv
  go_enter Tryz.func159, Tryz.ntmps159
  go_wp2_with fail
  refine H.out.mono ?_
  rintro e _ ⟨rfl, rfl⟩
  go_wp2_with fail
  go_ret
  exact ⟨rfl, Below.refl _ _⟩
set_option maxRecDepth 100000 in
set_option maxHeartbeats 400000 in
theorem no158 (g : Nat) (hg : g = 80 ∨ g = 81) (v : Value) (b1 off1 n c1 : Nat) (v2 : Value) (s : ByteArray) (t : Int) (x q1 q2 : Nat) (w : World) (hwd : WdR w) (hq1 : Box w q1 186 [v, .func (.func g) #[] #[]]) (hq2 : Box w q2 25 [.slice (some ⟨b1, off1, none⟩) n c1, v2])
    (hx : x < n) (hn : n ≤ 64) (hat : At w b1 (off1 + x * 2) [.string s, .int .i64 t]) (hb : b1 < w.heap.size) :
    Calls Tryz.prog 158 (#[.int .i64 (x : Int)] ++ #[.pointer (some ⟨q1, 0, none⟩), .pointer (some ⟨q2, 0, none⟩)]) w (Ret (.bool (!(if g = 80 then bgB s else enB s))) w) := by
  obtain ⟨x0, x1, xf, xz⟩ := hq1.v2
  obtain ⟨y0, y1, yf, yz⟩ := hq2.v2
  obtain ⟨k0, k1⟩ := hat.c2
  have hx64 : (x : Int) < 64 := by omega
  have hx0 : (0 : Int) ≤ x := by omega
  have hcall : ∀ X : Later w, Calls Tryz.prog g #[.agg #[.string s, .int .i64 t]] X.w (Ret (.bool (if g = 80 then bgB s else enB s)) X.w) := fun X => by
    rcases hg with rfl | rfl
    · exact begins80 s t X.w (hwd.later X.h)
    · exact ends81 s t X.w (hwd.later X.h)
  have HK := Lib.hid hcall
  obtain ⟨R, hR⟩ : ∃ R, (if g = 80 then bgB s else enB s) = R := ⟨_, rfl⟩
  rw [hR] at HK ⊢
  clear hcall hR hq1 hq2 hat hwd
  rcases hg with rfl | rfl
  · go_enter Tryz.func158, Tryz.ntmps158
    go_wp2_with fail
    refine wp_region_later (by kernel_rfl) (by kernel_rfl) ?_
    repeat go_big_quiet_step ((go_at_call 80; exact Calls.later (HK.out _)))
    refine wpQuiet_nil ?_
    rintro w2 ⟨⟨_, hb2⟩, rfl⟩
    go_wp2_with fail
    go_ret
    exact ⟨rfl, hb2⟩
  · go_enter Tryz.func158, Tryz.ntmps158
    go_wp2_with fail
    refine wp_region_later (by kernel_rfl) (by kernel_rfl) ?_
    repeat go_big_quiet_step ((go_at_call 81; exact Calls.later (HK.out _)))
    refine wpQuiet_nil ?_
    rintro w2 ⟨⟨_, hb2⟩, rfl⟩
    go_wp2_with fail
    go_ret
    exact ⟨rfl, hb2⟩
end Go.Proofs.YtahpdkkpnkhnhaaGreatDoor
