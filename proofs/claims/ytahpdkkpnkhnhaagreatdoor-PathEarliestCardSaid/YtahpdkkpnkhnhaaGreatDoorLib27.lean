/- Lemmas on the way to the laws (part 27): Fd Fe Ff Ha -/
import Derived.Test.YtahpdkkpnkhnhaaGreatDoorLib26
import Derived.Laws.EntriesVeiled
set_option linter.unusedVariables false
set_option linter.unusedSimpArgs false

/- Walks: CheckCut's search: the function itself. -/
namespace Go.Proofs.YtahpdkkpnkhnhaaGreatDoor
open Go Go.Proofs Go.RowKit Go.Shelf

set_option maxHeartbeats 400000 in
theorem rng136_walk (w W0 W : World) (sb qc qe qp qs qv rc q : Nat) (vc ve vs : Value) (b1 off1 c1 : Nat) (v2 : Value) (p : Pl) (ends : List Int) (m : Int) (V : List Bool → Int → Option (Bool × List Bool)) (s1 : List Bool) (k : Nat) (z : Nat → Value)
    (hok : OkP p) (hwd : WdR w) (hve : Sl encI 1 w w.heap.size ve ends) (hbb : b1 < w.heap.size) (hat : ∀ k (h : k < p.ms.length), At w b1 (off1 + k * 2) [.string p.ms[k].kind, .int .i64 p.ms[k].time])
    (hV : ∀ (s : List Bool) (x : Int), s.length = 64 → s.count false ≤ k → 0 ≤ x ∧ x < p.ms.length → Ans136 w sb qc qe qp qs qv vc ve vs (.slice (some ⟨b1, off1, none⟩) p.ms.length c1) v2 V k s x)
    (hq1 : q ≠ sb) (hq2 : q + 1 ≠ sb) (hrc : rc ≠ sb) (hrv : rc ≠ qc ∧ rc ≠ qe ∧ rc ≠ qp ∧ rc ≠ qs ∧ rc ≠ qv) (hrw : w.heap.size ≤ rc) (hr0 : W0.heap.size ≤ rc) (hwW : w.heap.size ≤ W.heap.size) (h0W : W0.heap.size ≤ W.heap.size)
    (hin : InV w W0 sb qc qe qp qs qv rc q vc ve vs (.slice (some ⟨b1, off1, none⟩) p.ms.length c1) v2 p m V (fun x => cvB (kdA p x) || ends.contains x) s1 k [] W)
    (h38 : z 38 = .func (.func 139) #[] #[.pointer (some ⟨q, 0, none⟩), .pointer (some ⟨q + 1, 0, none⟩)]) (Q : Exit → Act → World → Prop)
    (hdone : ∀ (D : Nat) s' (W' : World), W.heap.size ≤ D → goN V (fun x => cvB (kdA p x) || ends.contains x) (nextL p m) s1 = some (false, s') → VcM w W' sb qc qe qp qs qv vc ve vs (.slice (some ⟨b1, off1, none⟩) p.ms.length c1) v2 s' → Box W' rc 4 [.bool false] → Kept (fun k => k = sb) W0 W' → W'.heap[D]? = some (.deferred (some [])) →
      Q .normal { tmps := (fr136 m sb qc qe qp qs qv rc z).toArray, defers := marksOf [D] } W')
    (hstop : ∀ (D : Nat) s' (W' : World), W.heap.size ≤ D → goN V (fun x => cvB (kdA p x) || ends.contains x) (nextL p m) s1 = some (true, s') → VcM w W' sb qc qe qp qs qv vc ve vs (.slice (some ⟨b1, off1, none⟩) p.ms.length c1) v2 s' → Box W' rc 4 [.bool true] → Kept (fun k => k = sb) W0 W' → W'.heap[D]? = some (.deferred (some [])) →
      Q .ret { tmps := (fr136 m sb qc qe qp qs qv rc z).toArray, defers := marksOf [D] } W') :
    rng136.wp Tryz.prog Q { tmps := (fr136 m sb qc qe qp qs qv rc z).toArray, defers := [] } W := by
  refine (wpIn_wide (n := 9)).1 ?_
  rw [rng136_eq]
  have hnx : NxR W q w.heap.size (.slice (some ⟨b1, off1, none⟩) p.ms.length c1) v2 p m := by obtain ⟨_, _, _, _, _, h, _⟩ := hin; exact h
  refine wpIn_rangeFunc_ownH rfl (by omega) (gf := 139) (lb := #[.pointer (some ⟨q, 0, none⟩), .pointer (some ⟨q + 1, 0, none⟩)]) h38 trivial (enters_of Tryz.func139 (by kernel_rfl) rfl)
    (next_stopsP 8 (by omega) q w.heap.size _ _ c1 v2 p m hok.ale W hnx) KpN.t (fun W' k o o' hk h ho _ => KpN.b W' k o o' (Nat.le_trans hwW hk) h ho) (Below.refl _ _) (fun _ => rfl)
    (InV w W0 sb qc qe qp qs qv rc q vc ve vs (.slice (some ⟨b1, off1, none⟩) p.ms.length c1) v2 p m V (fun x => cvB (kdA p x) || ends.contains x) s1 k) (OutV w W0 sb qc qe qp qs qv rc vc ve vs (.slice (some ⟨b1, off1, none⟩) p.ms.length c1) v2 p m V (fun x => cvB (kdA p x) || ends.contains x) s1)
    (InV.own hwW h0W) (fun c => OutV.own hwW h0W c) hin
    (fun x a' _ => ∃ z', a' = { tmps := (fr136x m sb qc qe qp qs qv rc x.1 z').toArray, defers := [] })
    (fun x a' => fun _ A A' row h _ _ => h) ?_ ?_ ?_ ?_
  · intro lp pre x W1 K hI hK
    have ef : ((#[39] : Array Tmp).zip (encN x.1)).foldl (fun t (p, v) => t.setIfInBounds p v) (fr136 m sb qc qe qp qs qv rc z).toArray = ((fr136 m sb qc qe qp qs qv rc z).set 39 (.int .i64 x.1)).toArray := by
      simp [encN]
    obtain ⟨z', hz'⟩ := fr136n_of m sb qc qe qp qs qv rc x.1 ((fr136 m sb qc qe qp qs qv rc z).set 39 (.int .i64 x.1))
      (by rfl) (by rfl) (by rfl) (by rfl) (by rfl) (by rfl) (by rfl) (by rfl) (by rfl) (by rfl)
    rw [ef, hz']
    refine asg136_walk lp _ m sb qc qe qp qs qv rc x.1 W1 z' K fun z'' => ?_
    exact hK _ _ (KeepsFrom.refl _ _) ⟨id, Nat.le_refl _⟩ hI ⟨z'', rfl⟩
  · rintro lp pre x a' W1 _ _ hI ⟨z', rfl⟩ hlen
    exact bdy136_walk lp _ w W0 W1 sb qc qe qp qs qv rc q vc ve vs b1 off1 c1 v2 p ends m V s1 k pre x z' W.heap.size hok hwd hve hbb hat hV hq1 hq2 hrc hrv hrw hr0 hI
  · rintro D xs W1 hD hS ⟨s', h1, h2, h3, h4, h5, h6, h7⟩ hK
    exact hdone D s' W1 hD (by rw [← hS]; exact h1.go) h4 h6 h7 hK
  · rintro D c pre W1 hD hp ⟨rfl, s', sF, pre0, x, rfl, h1, h2, h3, h4, h5, h6⟩ hK
    refine wpIn_ret ?_
    refine hstop D sF W1 hD (h1.yes h2 h3 ?_) h4 h5 h6 hK
    have := hp
    simpa using this
end Go.Proofs.YtahpdkkpnkhnhaaGreatDoor

/- Walks: CheckCut's search, by its depth. -/
namespace Go.Proofs.YtahpdkkpnkhnhaaGreatDoor
open Go Go.Proofs Go.RowKit Go.Shelf

theorem vc_end {n : Nat} {w W0 W : World} {sb qc qe qp qs qv rc : Nat} {vc ve vs v1 v2 : Value} {s : List Bool} {b : Bool} {Ds : List Nat} {A : Act} (h8 : A.tmps[8]? = some (.pointer (some ⟨rc, 0, none⟩))) (hd : A.defers = marksOf Ds) (hm : MarksIn W Ds) (hn : Ds.Nodup) (hD : ∀ D ∈ Ds, W0.heap.size ≤ D) (hw0 : w.heap.size ≤ W0.heap.size)
    (hr : Box W rc 4 [.bool b]) (hv : VcM w W sb qc qe qp qs qv vc ve vs v1 v2 s) (hk : Kept (fun k => k = sb) W0 W) {R : Ending → World → Prop} (hR : ∀ W', VcM w W' sb qc qe qp qs qv vc ve vs v1 v2 s → Kept (fun k => k = sb) W0 W' → R (.returned (.bool b)) W') :
    bodyPostM Fence.wide n Tryz.prog Tryz.f136 R .ret A W := by
  show LeavesInM Fence.wide n Tryz.prog Tryz.f136 A.tmps R A.defers .returning W
  rw [hd]
  refine leaves_marksG (w0s := W0.heap.size) (v := .bool b) (fun W' => Box W' rc 4 [.bool b] ∧ VcM w W' sb qc qe qp qs qv vc ve vs v1 v2 s ∧ Kept (fun k => k = sb) W0 W') ?_ ?_ (fun W h => hR W h.2.1 h.2.2) Ds W hn hm hD ⟨hr, hv, hk⟩
  · rintro W' ⟨h1, _, _⟩
    have r0 := h1.cell 0
    simp only [List.getElem?_cons_zero] at r0
    simp [results, Tryz.results136, go_sem, r0, h8]
  · rintro W' D o ⟨h1, h2, h3⟩ ho hc hND
    have hg := grownBy_putObj' W' D (.deferred none)
    have hno : NoCells W' (some D) := fun r e => by cases e; exact ⟨o, ho, hc⟩
    exact ⟨h1.grown hg (hno.box h1), h2.grown hg hno (fun k e => by cases e; omega), h3.grown hg (fun k e => by cases e; exact .inr hND)⟩

theorem wp_of_exG {P : Program} {c : Code} {Q : Exit → Act → World → Prop} {A : Act} {W : World} {F : (Nat → Value) → Act} (G : Act → Prop) (h : ∃ z, A = F z) (hg : G A) (h2 : ∀ z, G (F z) → c.wp P Q (F z) W) : c.wp P Q A W := by
  obtain ⟨z, rfl⟩ := h; exact h2 z hg
set_option maxRecDepth 100000 in
set_option maxHeartbeats 4000000 in
theorem visit136 (w : World) (sb qc qe qp qs qv : Nat) (vc ve vs : Value) (b1 off1 c1 : Nat) (v2 : Value) (p : Pl) (cut ends starts : List Int)
    (hok : OkP p) (hwd : WdR w) (hvc : Sl encI 1 w w.heap.size vc cut) (hve : Sl encI 1 w w.heap.size ve ends) (hvs : Sl encI 1 w w.heap.size vs starts) (har : Sl Ar.enc 2 w w.heap.size v2 p.arcs) (hbb : b1 < w.heap.size) (hat : ∀ k (h : k < p.ms.length), At w b1 (off1 + k * 2) [.string p.ms[k].kind, .int .i64 p.ms[k].time]) :
    ∀ (k : Nat) (s : List Bool) (x : Int), s.length = 64 → s.count false ≤ k → 0 ≤ x ∧ x < p.ms.length → Ans136 w sb qc qe qp qs qv vc ve vs (.slice (some ⟨b1, off1, none⟩) p.ms.length c1) v2 (visN p cut ends starts (k + 1)) k s x := by
  intro k
  induction k using Nat.strongRecOn with
  | _ k ih =>
  intro s x hl hc hx
  have hle := hok.le
  obtain ⟨a2, c2, rfl, _, _⟩ := id har
  obtain ⟨b, s', hV, hl', hc'⟩ := visN_some hok cut ends starts k s x hl hc (by omega)
  refine ⟨b, s', hV, hl', by omega, fun W hvm => ?_⟩
  obtain ⟨mn, rfl⟩ : ∃ k : Nat, x = k := ⟨x.toNat, by omega⟩
  have hmn : mn < p.ms.length := by omega
  refine callsIn_wide (n := 9) |>.1 ?_
  refine callsIn_of_wp_marks Tryz.func136 rfl trivial ?_ rfl
  refine wpIn_wide.2 ?_
  obtain ⟨Q, hQ⟩ : ∃ Q, bodyPostM Fence.wide 9 Tryz.prog Tryz.f136 (fun e W'' => e = .returned (.bool b) ∧ VcM w W'' sb qc qe qp qs qv vc ve vs (.slice (some ⟨b1, off1, none⟩) p.ms.length c1) (.slice a2 p.arcs.length c2) s' ∧ Kept (fun k => k = sb) W W'') = Q := ⟨_, rfl⟩
  have HEND : Hid (∀ A W' Ds, A.tmps[8]? = some (.pointer (some ⟨W.heap.size, 0, none⟩)) → A.defers = marksOf Ds → MarksIn W' Ds → Ds.Nodup → (∀ D ∈ Ds, W.heap.size ≤ D) → Box W' W.heap.size 4 [.bool b] → VcM w W' sb qc qe qp qs qv vc ve vs (.slice (some ⟨b1, off1, none⟩) p.ms.length c1) (.slice a2 p.arcs.length c2) s' → Kept (fun k => k = sb) W W' → Q .ret A W') := Lib.hid (by
    intro A W' Ds k1 k2 k3 k4 k5 k6 k7 k8
    rw [← hQ]
    exact vc_end k1 k2 k3 k4 k5 hvm.bw.size k6 k7 k8 fun W'' m1 m2 => ⟨rfl, m1, m2⟩)
  rw [hQ]
  clear hQ
  simp only [Tryz.ntmps136, List.size_toArray, List.length_cons, List.length_nil, Nat.reduceAdd, Nat.reduceSub, Array.replicate_succ, Array.replicate_zero, List.push_toArray, List.append_toArray, List.nil_append, List.cons_append]
  obtain ⟨PR, hPR⟩ : ∃ q, rng136 = q := ⟨_, rfl⟩
  have HPR := Lib.hid hPR
  simp only [rng136, b136, Tryz.f136, Option.getD, codeL, codeR] at hPR
  have HLR := Lib.hid hPR
  clear hPR
  rw [HLR.out]
  have hm1 := hvm.later ((Below.refl W.heap.size W).alloc (Nat.le_refl _) (.cells #[.bool false] 4))
  have hr1 := Box.new W #[.bool false] 4
  have hk1 := (Kept.refl (fun k => k = sb) W).alloc (.cells #[.bool false] 4)
  have hrs : W.heap.size ≠ sb := by have := hvm.sn.lt; omega
  have hrv : W.heap.size ≠ qc ∧ W.heap.size ≠ qe ∧ W.heap.size ≠ qp ∧ W.heap.size ≠ qs ∧ W.heap.size ≠ qv := by
    have := hvm.bc.lt; have := hvm.be.lt; have := hvm.bp.lt; have := hvm.bs.lt; have := hvm.bv.lt; omega
  have hww := hvm.bw.size
  have HRS := Lib.hid hrs
  have HRV := Lib.hid hrv
  have HWW := Lib.hid hww
  have HSET : Hid (∀ W' (c0 u : Value) s3, VcM w W' sb qc qe qp qs qv vc ve vs (.slice (some ⟨b1, off1, none⟩) p.ms.length c1) (.slice a2 p.arcs.length c2) s3 → Box W' W.heap.size 4 [c0] → Kept (fun k => k = sb) W W' →
      VcM w (W'.setCell ⟨W.heap.size, 0, none⟩ u) sb qc qe qp qs qv vc ve vs (.slice (some ⟨b1, off1, none⟩) p.ms.length c1) (.slice a2 p.arcs.length c2) s3 ∧ Box (W'.setCell ⟨W.heap.size, 0, none⟩ u) W.heap.size 4 [u] ∧ Kept (fun k => k = sb) W (W'.setCell ⟨W.heap.size, 0, none⟩ u)) := Lib.hid (fun W' c0 u s3 h1 h2 h3 =>
    ⟨h1.other _ hrs hrv.1 hrv.2.1 hrv.2.2.1 hrv.2.2.2.1 hrv.2.2.2.2 hww, h2.set 0 _, h3.set _ (.inr (Nat.le_refl _))⟩)
  obtain ⟨r0, rz, rf⟩ : (W.alloc (.cells #[.bool false] 4)).cell? ⟨W.heap.size, 0, none⟩ = some (.bool false) ∧ W.heap.size < (W.alloc (.cells #[.bool false] 4)).heap.size ∧ ∀ o, (W.alloc (.cells #[.bool false] 4)).frozen? ⟨W.heap.size, o, none⟩ = false := ⟨hr1.cell 0, hr1.lt, hr1.frozen⟩
  have s0 := (hm1.sn.cell mn).trans (bools_get (by omega))
  have sz := hm1.sn.lt
  have sf := hm1.sn.frozen
  have c0 := hm1.bc.cell 0
  have cz := hm1.bc.lt
  simp only [List.getElem?_cons_zero] at c0
  unfold visN at hV
  rw [Int.toNat_natCast, kdA_nat hmn] at hV
  have hm64 : (mn : Int) < 64 := by omega
  have HKC := Lib.hid (contains82 vc cut mn _ (hvc.later hm1.bw))
  obtain ⟨A1, hA1⟩ : ∃ b, s.getD mn false = b := ⟨_, rfl⟩
  obtain ⟨A2, hA2⟩ : ∃ b, cut.contains (mn : Int) = b := ⟨_, rfl⟩
  rw [hA1] at s0 hV
  rw [hA2] at HKC hV
  have HM1 := Lib.hid hm1
  have HR1 := Lib.hid hr1
  have HK1 := Lib.hid hk1
  cases A1 with
  | true =>
    have hV2 : some (false, s) = some (b, s') := hV
    simp only [Option.some.injEq, Prod.mk.injEq] at hV2
    obtain ⟨rfl, rfl⟩ := hV2
    clear hV hvm hm1 hr1 hk1 hA1 hA2 HKC hrs hrv hww
    go_wp2_with fail
    exact HEND.out _ _ [] rfl rfl (fun D h => by cases h) List.nodup_nil (fun D h => by cases h) HR1.out HM1.out HK1.out
  | false =>
  cases A2 with
  | true =>
    have hV2 : some (false, s) = some (b, s') := hV
    simp only [Option.some.injEq, Prod.mk.injEq] at hV2
    obtain ⟨rfl, rfl⟩ := hV2
    clear hV hvm hm1 hr1 hk1 hA1 hA2 hrs hrv hww
    go_wp2_with (go_at_call 82; refine HKC.out.mono ?_; rintro e w' ⟨rfl, rfl⟩)
    exact HEND.out _ _ [] rfl rfl (fun D h => by cases h) List.nodup_nil (fun D h => by cases h) HR1.out HM1.out HK1.out
  | false =>
  have hls : (s.set mn true).length = 64 := by rw [List.length_set, hl]
  have hcs := cnt_set s mn (by rw [List.getElem?_eq_getElem (by omega)]; have := hA1; rw [List.getD_eq_getElem?_getD, List.getElem?_eq_getElem (by omega)] at this; simpa using this)
  have hm2 := hm1.mark mn
  have hr2 := hr1.other (a := ⟨sb, mn, none⟩) (.bool true) (by dsimp only; omega)
  have hk2 := hk1.set (p := ⟨sb, mn, none⟩) (.bool true) (.inl rfl)
  have HKE := Lib.hid (contains82 ve ends mn _ (hve.later hm2.bw))
  obtain ⟨A3, hA3⟩ : ∃ b, ends.contains (mn : Int) = b := ⟨_, rfl⟩
  rw [hA3] at HKE hV
  have HM2 := Lib.hid hm2
  have HR2 := Lib.hid hr2
  have HK2 := Lib.hid hk2
  have e0 := hm2.be.cell 0
  have ez := hm2.be.lt
  obtain ⟨p0, p1, pf, pz⟩ := hm2.bp.v2
  have r0' := hr2.cell 0
  have rz' := hr2.lt
  have rf' := hr2.frozen
  simp only [List.getElem?_cons_zero] at e0 r0'
  cases A3 with
  | true =>
    have hV2 : some (true, s.set mn true) = some (b, s') := hV
    simp only [Option.some.injEq, Prod.mk.injEq] at hV2
    obtain ⟨rfl, rfl⟩ := hV2
    clear hV hvm hm1 hr1 hk1 hA1 hA2 hA3 hrs hrv hww hm2 hr2 hk2
    go_wp2_with (first | (go_at_call 82; refine HKC.out.mono ?_; rintro e w' ⟨rfl, rfl⟩) | (go_at_call 82; refine HKE.out.mono ?_; rintro e w' ⟨rfl, rfl⟩))
    obtain ⟨m1, m2, m3⟩ := HSET.out _ _ (.bool true) _ HM2.out HR2.out HK2.out
    exact HEND.out _ _ [] rfl rfl (fun D h => by cases h) List.nodup_nil (fun D h => by cases h) m2 m1 m3
  | false =>
  have HAT := Lib.hid (fun (W' : World) (hb : Below w.heap.size w W') => ((hat mn hmn).below hb hbb).c2)
  obtain ⟨k0, k1⟩ := HAT.out _ hm2.bw
  have b1z := Nat.lt_of_lt_of_le hbb hm2.bw.size
  have HCV := Lib.hid (conveys84 p.ms[mn].kind p.ms[mn].time _ (hwd.later hm2.bw))
  have HKS := Lib.hid (fun (W' : World) (hb : Below w.heap.size w W') => contains82 vs starts mn W' (hvs.later hb))
  obtain ⟨A4, hA4⟩ : ∃ b, cvB p.ms[mn].kind = b := ⟨_, rfl⟩
  obtain ⟨A5, hA5⟩ : ∃ b, starts.contains (mn : Int) = b := ⟨_, rfl⟩
  rw [hA4] at HCV hV
  rw [hA5] at HKS hV
  generalize p.ms[mn] = mx at *
  obtain ⟨k', rfl⟩ : ∃ k', k = k' + 1 := ⟨k - 1, by omega⟩
  clear hvm hm1 hr1 hk1 hA1 hA2 hA3 hA4 hA5 hrs hrv hww hm2 hr2 hk2
  cases A4 with
  | true =>
    have hV2 : goN (visN p cut ends starts (k' + 1)) (fun x => cvB (kdA p x) || ends.contains x) (nextL p mn) (s.set mn true) = some (b, s') := hV
    clear hV
    go_wp2_with (first | (go_at_call 82; refine HKC.out.mono ?_; rintro e w' ⟨rfl, rfl⟩) | (go_at_call 82; refine HKE.out.mono ?_; rintro e w' ⟨rfl, rfl⟩) | (go_at_call 84; refine HCV.out.mono ?_; rintro e w3 ⟨rfl, hb3⟩; have HM3 := Lib.hid (HM2.out.later hb3); have HR3 := Lib.hid (HR2.out.later hb3); have HK3 := Lib.hid (HK2.out.below hb3); have g0 := HM3.out.bs.cell 0; have gz := HM3.out.bs.lt; obtain ⟨u0, u1, uf, uz⟩ := HM3.out.bp.v2; have t0 := HR3.out.cell 0; have tz := HR3.out.lt; have tf := HR3.out.frozen; clear hb3; simp only [List.getElem?_cons_zero] at g0 t0) | (go_at_call 82; refine (HKS.out _ HM3.out.bw).mono ?_; rintro e w' ⟨rfl, rfl⟩) | (go_at_call 83; refine (next83 _ _ _ _ _ _ _ _).mono ?_; rintro e w' ⟨rfl, rfl⟩))
    rw [← HPR.out]
    refine wp_of_exG (F := fun z => { tmps := (fr136 mn sb qc qe qp qs qv W.heap.size z).toArray, defers := [] }) (fun A => A.tmps[38]? = some (.func (.func 139) #[] #[.pointer (some ⟨w3.heap.size, 0, none⟩), .pointer (some ⟨w3.heap.size + 1, 0, none⟩)])) (by apply fr136_act <;> rfl) rfl fun z h38 => ?_
    have hb4 : Below w3.heap.size w3 ((w3.alloc (.cells #[.slice (some ⟨b1, off1, none⟩) p.ms.length c1, .slice a2 p.arcs.length c2] 25)).alloc (.cells #[.int .i64 (mn : Int)] 3)) := ((Below.refl _ _).alloc (Nat.le_refl _) _).alloc (by simp) _
    have hs4 : w3.heap.size ≤ ((w3.alloc (.cells #[.slice (some ⟨b1, off1, none⟩) p.ms.length c1, .slice a2 p.arcs.length c2] 25)).alloc (.cells #[.int .i64 (mn : Int)] 3)).heap.size := hb4.size
    have hw3 := HM3.out.bw.size
    have h03 := HK3.out.size
    have hrs3 : W.heap.size < w3.heap.size := HR3.out.lt
    have hsb3 := HM3.out.sn.lt
    refine rng136_walk w W _ sb qc qe qp qs qv W.heap.size w3.heap.size vc ve vs b1 off1 c1 _ p ends mn (visN p cut ends starts (k' + 1)) (s.set mn true) k' z hok hwd hve hbb hat (ih k' (by omega)) (by omega) (by omega) HRS.out HRV.out HWW.out (Nat.le_refl _) (Nat.le_trans hw3 hs4) (by omega)
      ⟨s.set mn true, .nil, hls, by omega, HM3.out.later hb4, ⟨(Box.new w3 _ 25).alloc _, Box.newAt _ _ 3 (by simp), har.below ((HM3.out.later hb4).bw), (HM3.out.later hb4).bw.size⟩, HR3.out.later hb4, HK3.out.below hb4⟩ (Option.some.inj h38) _ ?_ ?_
    · intro D s'' W5 hD hgo hv5 hr5 hk5 hK
      have hV3 := hV2.symm.trans hgo
      simp only [Option.some.injEq, Prod.mk.injEq] at hV3
      obtain ⟨rfl, rfl⟩ := hV3
      have t0' := hr5.cell 0
      have tz' := hr5.lt
      have tf' := hr5.frozen
      simp only [List.getElem?_cons_zero] at t0'
      have H5 := Lib.hid hv5
      have H6 := Lib.hid hr5
      have H7 := Lib.hid hk5
      have H8 := Lib.hid hK
      have H9 := Lib.hid (show W.heap.size ≤ D by omega)
      clear hv5 hr5 hk5 hK hgo hV2 hD
      simp only [fr136]
      go_wp2_with fail
      obtain ⟨m1, m2, m3⟩ := HSET.out _ _ (.bool false) _ H5.out H6.out H7.out
      exact HEND.out _ _ [D] rfl rfl (fun D' hD' => by simp at hD'; subst hD'; exact (KeepsOthers.setCell _ _ _).same D' _ H8.out rfl) (by simp) (fun D' hD' => by simp at hD'; subst hD'; exact H9.out) m2 m1 m3
    · intro D s'' W5 hD hgo hv5 hr5 hk5 hK
      have hV3 := hV2.symm.trans hgo
      simp only [Option.some.injEq, Prod.mk.injEq] at hV3
      obtain ⟨rfl, rfl⟩ := hV3
      exact HEND.out _ _ [D] rfl rfl (fun D' hD' => by simp at hD'; subst hD'; exact hK) (by simp) (fun D' hD' => by simp at hD'; subst hD'; omega) hr5 hv5 hk5
  | false =>
  cases A5 with
  | true =>
    have hV2 : goN (visN p cut ends starts (k' + 1)) (fun x => cvB (kdA p x) || ends.contains x) (nextL p mn) (s.set mn true) = some (b, s') := hV
    clear hV
    go_wp2_with (first | (go_at_call 82; refine HKC.out.mono ?_; rintro e w' ⟨rfl, rfl⟩) | (go_at_call 82; refine HKE.out.mono ?_; rintro e w' ⟨rfl, rfl⟩) | (go_at_call 84; refine HCV.out.mono ?_; rintro e w3 ⟨rfl, hb3⟩; have HM3 := Lib.hid (HM2.out.later hb3); have HR3 := Lib.hid (HR2.out.later hb3); have HK3 := Lib.hid (HK2.out.below hb3); have g0 := HM3.out.bs.cell 0; have gz := HM3.out.bs.lt; obtain ⟨u0, u1, uf, uz⟩ := HM3.out.bp.v2; have t0 := HR3.out.cell 0; have tz := HR3.out.lt; have tf := HR3.out.frozen; clear hb3; simp only [List.getElem?_cons_zero] at g0 t0) | (go_at_call 82; refine (HKS.out _ HM3.out.bw).mono ?_; rintro e w' ⟨rfl, rfl⟩) | (go_at_call 83; refine (next83 _ _ _ _ _ _ _ _).mono ?_; rintro e w' ⟨rfl, rfl⟩))
    rw [← HPR.out]
    refine wp_of_exG (F := fun z => { tmps := (fr136 mn sb qc qe qp qs qv W.heap.size z).toArray, defers := [] }) (fun A => A.tmps[38]? = some (.func (.func 139) #[] #[.pointer (some ⟨w3.heap.size, 0, none⟩), .pointer (some ⟨w3.heap.size + 1, 0, none⟩)])) (by apply fr136_act <;> rfl) rfl fun z h38 => ?_
    have hb4 : Below w3.heap.size w3 ((w3.alloc (.cells #[.slice (some ⟨b1, off1, none⟩) p.ms.length c1, .slice a2 p.arcs.length c2] 25)).alloc (.cells #[.int .i64 (mn : Int)] 3)) := ((Below.refl _ _).alloc (Nat.le_refl _) _).alloc (by simp) _
    have hs4 : w3.heap.size ≤ ((w3.alloc (.cells #[.slice (some ⟨b1, off1, none⟩) p.ms.length c1, .slice a2 p.arcs.length c2] 25)).alloc (.cells #[.int .i64 (mn : Int)] 3)).heap.size := hb4.size
    have hw3 := HM3.out.bw.size
    have h03 := HK3.out.size
    have hrs3 : W.heap.size < w3.heap.size := HR3.out.lt
    have hsb3 := HM3.out.sn.lt
    refine rng136_walk w W _ sb qc qe qp qs qv W.heap.size w3.heap.size vc ve vs b1 off1 c1 _ p ends mn (visN p cut ends starts (k' + 1)) (s.set mn true) k' z hok hwd hve hbb hat (ih k' (by omega)) (by omega) (by omega) HRS.out HRV.out HWW.out (Nat.le_refl _) (Nat.le_trans hw3 hs4) (by omega)
      ⟨s.set mn true, .nil, hls, by omega, HM3.out.later hb4, ⟨(Box.new w3 _ 25).alloc _, Box.newAt _ _ 3 (by simp), har.below ((HM3.out.later hb4).bw), (HM3.out.later hb4).bw.size⟩, HR3.out.later hb4, HK3.out.below hb4⟩ (Option.some.inj h38) _ ?_ ?_
    · intro D s'' W5 hD hgo hv5 hr5 hk5 hK
      have hV3 := hV2.symm.trans hgo
      simp only [Option.some.injEq, Prod.mk.injEq] at hV3
      obtain ⟨rfl, rfl⟩ := hV3
      have t0' := hr5.cell 0
      have tz' := hr5.lt
      have tf' := hr5.frozen
      simp only [List.getElem?_cons_zero] at t0'
      have H5 := Lib.hid hv5
      have H6 := Lib.hid hr5
      have H7 := Lib.hid hk5
      have H8 := Lib.hid hK
      have H9 := Lib.hid (show W.heap.size ≤ D by omega)
      clear hv5 hr5 hk5 hK hgo hV2 hD
      simp only [fr136]
      go_wp2_with fail
      obtain ⟨m1, m2, m3⟩ := HSET.out _ _ (.bool false) _ H5.out H6.out H7.out
      exact HEND.out _ _ [D] rfl rfl (fun D' hD' => by simp at hD'; subst hD'; exact (KeepsOthers.setCell _ _ _).same D' _ H8.out rfl) (by simp) (fun D' hD' => by simp at hD'; subst hD'; exact H9.out) m2 m1 m3
    · intro D s'' W5 hD hgo hv5 hr5 hk5 hK
      have hV3 := hV2.symm.trans hgo
      simp only [Option.some.injEq, Prod.mk.injEq] at hV3
      obtain ⟨rfl, rfl⟩ := hV3
      exact HEND.out _ _ [D] rfl rfl (fun D' hD' => by simp at hD'; subst hD'; exact hK) (by simp) (fun D' hD' => by simp at hD'; subst hD'; omega) hr5 hv5 hk5
  | false =>
    have hV2 : some (false, s.set mn true) = some (b, s') := hV
    simp only [Option.some.injEq, Prod.mk.injEq] at hV2
    obtain ⟨rfl, rfl⟩ := hV2
    clear hV
    go_wp2_with (first | (go_at_call 82; refine HKC.out.mono ?_; rintro e w' ⟨rfl, rfl⟩) | (go_at_call 82; refine HKE.out.mono ?_; rintro e w' ⟨rfl, rfl⟩) | (go_at_call 84; refine HCV.out.mono ?_; rintro e w3 ⟨rfl, hb3⟩; have HM3 := Lib.hid (HM2.out.later hb3); have HR3 := Lib.hid (HR2.out.later hb3); have HK3 := Lib.hid (HK2.out.below hb3); have g0 := HM3.out.bs.cell 0; have gz := HM3.out.bs.lt; obtain ⟨u0, u1, uf, uz⟩ := HM3.out.bp.v2; have t0 := HR3.out.cell 0; have tz := HR3.out.lt; have tf := HR3.out.frozen; clear hb3; simp only [List.getElem?_cons_zero] at g0 t0) | (go_at_call 82; refine (HKS.out _ HM3.out.bw).mono ?_; rintro e w' ⟨rfl, rfl⟩) | (go_at_call 83; refine (next83 _ _ _ _ _ _ _ _).mono ?_; rintro e w' ⟨rfl, rfl⟩))
    obtain ⟨m1, m2, m3⟩ := HSET.out _ _ (.bool false) _ HM3.out HR3.out HK3.out
    exact HEND.out _ _ [] rfl rfl (fun D h => by cases h) List.nodup_nil (fun D h => by cases h) m2 m1 m3
end Go.Proofs.YtahpdkkpnkhnhaaGreatDoor

/- Walks: CheckCut. -/
namespace Go.Proofs.YtahpdkkpnkhnhaaGreatDoor
open Go Go.Proofs Go.RowKit Go.Shelf

/-- Does one of these machines answer yes? -/
def anyN (V : List Bool → Int → Option (Bool × List Bool)) : List Int → List Bool → Bool
  | [], _ => false
  | x :: r, s => match V s x with
    | some (true, _) => true
    | some (false, s') => anyN V r s'
    | none => false
theorem anyN_cons (V : List Bool → Int → Option (Bool × List Bool)) (x : Int) (r : List Int) (s : List Bool) : anyN V (x :: r) s = match V s x with
    | some (true, _) => true
    | some (false, s') => anyN V r s'
    | none => false := rfl
def cutB (p : Pl) (src snk cut : List Int) : Bool := anyN (visN p cut snk src 65) src (List.replicate 64 false)
def cutE (p : Pl) (src snk cut : List Int) : Int := if bothE p src snk ≠ 0 then bothE p src snk else if unkE p.ms.length cut ≠ 0 then unkE p.ms.length cut else if cutB p src snk cut then 18 else 0

/-- Behind k machines that have answered no. -/
def ICut (w W9 : World) (sb qc qe qp qs qv : Nat) (vc ve vs v1 v2 : Value) (V : List Bool → Int → Option (Bool × List Bool)) (src : List Int) (k : Nat) (W : World) : Prop :=
  ∃ s, anyN V src (List.replicate 64 false) = anyN V (src.drop k) s ∧ s.length = 64 ∧ VcM w W sb qc qe qp qs qv vc ve vs v1 v2 s ∧ Below w.heap.size W9 W
def PCut (w W9 : World) (V : List Bool → Int → Option (Bool × List Bool)) (src : List Int) (W : World) : Prop := anyN V src (List.replicate 64 false) = true ∧ Below w.heap.size W9 W
theorem cut_step {w W9 : World} {sb qc qe qp qs qv : Nat} {vc ve vs v1 v2 : Value} {p : Pl} {src : List Int} {V : List Bool → Int → Option (Bool × List Bool)} (hin : ∀ x ∈ src, inN p.ms.length x = true) (hw9 : w.heap.size ≤ W9.heap.size)
    (hV : ∀ (s : List Bool) (x : Int), s.length = 64 → s.count false ≤ 64 → 0 ≤ x ∧ x < p.ms.length → Ans136 w sb qc qe qp qs qv vc ve vs v1 v2 V 64 s x) :
    StepS 136 #[.pointer (some ⟨sb, 0, none⟩), .pointer (some ⟨qc, 0, none⟩), .pointer (some ⟨qe, 0, none⟩), .pointer (some ⟨qp, 0, none⟩), .pointer (some ⟨qs, 0, none⟩), .pointer (some ⟨qv, 0, none⟩)] src (ICut w W9 sb qc qe qp qs qv vc ve vs v1 v2 V src) (PCut w W9 V src) := by
  rintro k h W ⟨s, h1, h2, h3, h4⟩
  have hx := hin _ (List.getElem_mem h)
  unfold inN at hx
  simp only [Bool.and_eq_true, decide_eq_true_eq] at hx
  obtain ⟨b', s2, e1, e2, e3, e4⟩ := hV s src[k] h2 (by have := List.count_le_length (a := false) (l := s); omega) hx
  refine (e4 W h3).mono ?_
  rintro e W' ⟨rfl, m1, m2⟩
  have hB : Below w.heap.size W9 W' := h4.trans (m2.toBelow (Nat.le_trans hw9 h4.size) (fun j e => by rw [e]; exact h3.lo))
  rw [List.drop_eq_getElem_cons h] at h1
  rw [anyN_cons, e1] at h1
  refine ⟨b', rfl, ?_⟩
  cases b' with
  | false => exact .inl ⟨rfl, s2, h1, e2, m1, hB⟩
  | true => exact .inr ⟨rfl, h1, hB⟩

theorem cut_call {w w3 : World} {a1 a2 sa ta ua : Option Addr} {c1 c2 cs ct cu : Nat} {p : Pl} {src snk cut : List Int} (bs : Array Value) (hbs : bs.toList = (List.replicate 64 false).map Value.bool) (hok : OkP p) (hoe : ∀ x ∈ src, inN p.ms.length x = true)
    (hwd : WdR w) (hv : PlR w w.heap.size (.slice a1 p.ms.length c1) (.slice a2 p.arcs.length c2) p) (hs : Sl encI 1 w w.heap.size (.slice sa src.length cs) src) (ht : Sl encI 1 w w.heap.size (.slice ta snk.length ct) snk) (hu : Sl encI 1 w w.heap.size (.slice ua cut.length cu) cut)
    (hb : Below w.heap.size w w3) (h0 : Box w3 w.heap.size 25 [.slice a1 p.ms.length c1, .slice a2 p.arcs.length c2]) (h1 : Box w3 (w.heap.size + 1) 26 [.slice sa src.length cs]) (h2 : Box w3 (w.heap.size + 1 + 1) 26 [.slice ta snk.length ct]) (h3 : Box w3 (w.heap.size + 1 + 1 + 1) 26 [.slice ua cut.length cu]) :
    Calls Tryz.prog 111 #[.slice sa src.length cs, .func (.func 136) #[] #[.pointer (some ⟨w3.heap.size, 0, none⟩), .pointer (some ⟨w.heap.size + 1 + 1 + 1, 0, none⟩), .pointer (some ⟨w.heap.size + 1 + 1, 0, none⟩), .pointer (some ⟨w.heap.size, 0, none⟩), .pointer (some ⟨w.heap.size + 1, 0, none⟩), .pointer (some ⟨w3.heap.size + 1, 0, none⟩)]] ((w3.alloc (.cells bs 118)).alloc (.cells #[.func (.func 136) #[] #[.pointer (some ⟨w3.heap.size, 0, none⟩), .pointer (some ⟨w.heap.size + 1 + 1 + 1, 0, none⟩), .pointer (some ⟨w.heap.size + 1 + 1, 0, none⟩), .pointer (some ⟨w.heap.size, 0, none⟩), .pointer (some ⟨w.heap.size + 1, 0, none⟩), .pointer (some ⟨w3.heap.size + 1, 0, none⟩)]] 138)) fun e w' => e = .returned (.bool (cutB p src snk cut)) ∧ Below w.heap.size w w' := by
  have hB9 : Below w3.heap.size w3 ((w3.alloc (.cells bs 118)).alloc (.cells #[.func (.func 136) #[] #[.pointer (some ⟨w3.heap.size, 0, none⟩), .pointer (some ⟨w.heap.size + 1 + 1 + 1, 0, none⟩), .pointer (some ⟨w.heap.size + 1 + 1, 0, none⟩), .pointer (some ⟨w.heap.size, 0, none⟩), .pointer (some ⟨w.heap.size + 1, 0, none⟩), .pointer (some ⟨w3.heap.size + 1, 0, none⟩)]] 138)) := ((Below.refl _ _).alloc (Nat.le_refl _) _).alloc (by simp) _
  have hW9 := hb.trans (hB9.mono hb.size)
  have e0 := h0.lt
  have e1 := h1.lt
  have e2 := h2.lt
  have e3 := h3.lt
  have hS : Box ((w3.alloc (.cells bs 118)).alloc (.cells #[.func (.func 136) #[] #[.pointer (some ⟨w3.heap.size, 0, none⟩), .pointer (some ⟨w.heap.size + 1 + 1 + 1, 0, none⟩), .pointer (some ⟨w.heap.size + 1 + 1, 0, none⟩), .pointer (some ⟨w.heap.size, 0, none⟩), .pointer (some ⟨w.heap.size + 1, 0, none⟩), .pointer (some ⟨w3.heap.size + 1, 0, none⟩)]] 138)) w3.heap.size 118 ((List.replicate 64 false).map Value.bool) := by
    have := (Box.new w3 bs 118).alloc (.cells #[.func (.func 136) #[] #[.pointer (some ⟨w3.heap.size, 0, none⟩), .pointer (some ⟨w.heap.size + 1 + 1 + 1, 0, none⟩), .pointer (some ⟨w.heap.size + 1 + 1, 0, none⟩), .pointer (some ⟨w.heap.size, 0, none⟩), .pointer (some ⟨w.heap.size + 1, 0, none⟩), .pointer (some ⟨w3.heap.size + 1, 0, none⟩)]] 138)
    rwa [hbs] at this
  have hV : Box ((w3.alloc (.cells bs 118)).alloc (.cells #[.func (.func 136) #[] #[.pointer (some ⟨w3.heap.size, 0, none⟩), .pointer (some ⟨w.heap.size + 1 + 1 + 1, 0, none⟩), .pointer (some ⟨w.heap.size + 1 + 1, 0, none⟩), .pointer (some ⟨w.heap.size, 0, none⟩), .pointer (some ⟨w.heap.size + 1, 0, none⟩), .pointer (some ⟨w3.heap.size + 1, 0, none⟩)]] 138)) (w3.heap.size + 1) 138 [.func (.func 136) #[] #[.pointer (some ⟨w3.heap.size, 0, none⟩), .pointer (some ⟨w.heap.size + 1 + 1 + 1, 0, none⟩), .pointer (some ⟨w.heap.size + 1 + 1, 0, none⟩), .pointer (some ⟨w.heap.size, 0, none⟩), .pointer (some ⟨w.heap.size + 1, 0, none⟩), .pointer (some ⟨w3.heap.size + 1, 0, none⟩)]] := Box.newAt _ _ 138 (by simp)
  have hM : VcM w ((w3.alloc (.cells bs 118)).alloc (.cells #[.func (.func 136) #[] #[.pointer (some ⟨w3.heap.size, 0, none⟩), .pointer (some ⟨w.heap.size + 1 + 1 + 1, 0, none⟩), .pointer (some ⟨w.heap.size + 1 + 1, 0, none⟩), .pointer (some ⟨w.heap.size, 0, none⟩), .pointer (some ⟨w.heap.size + 1, 0, none⟩), .pointer (some ⟨w3.heap.size + 1, 0, none⟩)]] 138)) w3.heap.size (w.heap.size + 1 + 1 + 1) (w.heap.size + 1 + 1) w.heap.size (w.heap.size + 1) (w3.heap.size + 1) (.slice ua cut.length cu) (.slice ta snk.length ct) (.slice sa src.length cs) (.slice a1 p.ms.length c1) (.slice a2 p.arcs.length c2) (List.replicate 64 false) :=
    ⟨hS, h3.later hB9, h2.later hB9, h0.later hB9, h1.later hB9, hV, by omega, by omega, by omega, by omega, by omega, by omega, hW9⟩
  generalize (w3.alloc (.cells bs 118)).alloc (.cells #[.func (.func 136) #[] #[.pointer (some ⟨w3.heap.size, 0, none⟩), .pointer (some ⟨w.heap.size + 1 + 1 + 1, 0, none⟩), .pointer (some ⟨w.heap.size + 1 + 1, 0, none⟩), .pointer (some ⟨w.heap.size, 0, none⟩), .pointer (some ⟨w.heap.size + 1, 0, none⟩), .pointer (some ⟨w3.heap.size + 1, 0, none⟩)]] 138) = W9 at *
  have hms := hv.ms
  obtain ⟨_, _, e, _, hA⟩ := hms
  obtain ⟨b1, off1, rfl, hbb, hat⟩ := hA hok.pos
  simp only [Value.slice.injEq] at e
  obtain ⟨rfl, _, rfl⟩ := e
  have hst := cut_step (src := src) (W9 := W9) hoe hW9.size (visit136 w w3.heap.size (w.heap.size + 1 + 1 + 1) (w.heap.size + 1 + 1) w.heap.size (w.heap.size + 1) (w3.heap.size + 1) _ _ _ b1 off1 c1 _ p cut snk src hok hwd hu ht hs hv.arcs hbb hat 64)
  refine (containsS111 _ src 136 _ w.heap.size W9 (enters_of Tryz.func136 (by kernel_rfl) rfl) hW9.size (hs.below hW9) _ _ (fun k W h => by obtain ⟨_, _, _, _, h⟩ := h; exact h) hst ⟨List.replicate 64 false, by rw [List.drop_zero], by simp, hM, Below.refl _ _⟩).mono ?_
  rintro e w' ⟨b, rfl, (⟨rfl, s, k1, _, _, k2⟩ | ⟨rfl, k1, k2⟩)⟩
  · rw [List.drop_length] at k1
    exact ⟨by unfold cutB; rw [k1]; rfl, hW9.trans k2⟩
  · exact ⟨by unfold cutB; rw [k1], hW9.trans k2⟩

set_option maxRecDepth 100000 in
set_option maxHeartbeats 1000000 in
theorem checkCut75 (w : World) (v1 v2 s t u : Value) (p : Pl) (src snk cut : List Int) (hwd : WdR w) (hv : PlR w w.heap.size v1 v2 p) (hs : Sl encI 1 w w.heap.size s src) (ht : Sl encI 1 w w.heap.size t snk) (hu : Sl encI 1 w w.heap.size u cut) :
    Calls Tryz.prog 75 #[.agg #[v1, v2], s, t, u] w (Ret (.int .i64 (cutE p src snk cut)) w) := by
  obtain ⟨Q, hQ⟩ : ∃ Q, Ret (.int .i64 (cutE p src snk cut)) w = Q := ⟨_, rfl⟩
  rw [hQ]
  have HQ : Hid (∀ x w', Below w.heap.size w w' → x = cutE p src snk cut → Q (.returned (.int .i64 x)) w') := Lib.hid (fun x w' hb hx => by rw [← hQ, hx]; exact ⟨rfl, hb⟩)
  clear hQ
  have HP := Lib.hid (fun (w1 : World) (hb : Below w.heap.size w w1) => checkBoth118 w1 _ _ s t p src snk (hwd.later hb) (hv.later hb) (hs.later hb) (ht.later hb))
  have HPL := Lib.hid hv
  have HWD := Lib.hid hwd
  have HS := Lib.hid hs
  have HTT := Lib.hid ht
  have HUU := Lib.hid hu
  obtain ⟨a1, c1, a2, c2, rfl, rfl⟩ := hv.agg
  have HUK := Lib.hid (fun (w1 : World) (hb : Below w.heap.size w w1) => unknown79 a1 p.ms.length c1 (.slice a2 p.arcs.length c2) u cut w1 (hu.later hb))
  obtain ⟨sa, cs, rfl, _, _⟩ := id hs
  obtain ⟨ta, ct, rfl, _, _⟩ := id ht
  obtain ⟨ua, cu, rfl, _, _⟩ := id hu
  clear hwd hv hs ht hu
  have HB := Lib.hid (((((Below.refl w.heap.size w).alloc (Nat.le_refl _) (.cells #[.slice a1 p.ms.length c1, .slice a2 p.arcs.length c2] 25)).alloc (by simp) (.cells #[.slice sa src.length cs] 26)).alloc (by simp; omega) (.cells #[.slice ta snk.length ct] 26)).alloc (by simp; omega) (.cells #[.slice ua cut.length cu] 26))
  have HX := Lib.hid ((((Box.new w #[.slice a1 p.ms.length c1, .slice a2 p.arcs.length c2] 25).alloc (.cells #[.slice sa src.length cs] 26)).alloc (.cells #[.slice ta snk.length ct] 26)).alloc (.cells #[.slice ua cut.length cu] 26))
  have HX1 := Lib.hid (((Box.newAt (w.alloc (.cells #[.slice a1 p.ms.length c1, .slice a2 p.arcs.length c2] 25)) #[.slice sa src.length cs] 26 (n := w.heap.size + 1) (by simp)).alloc (.cells #[.slice ta snk.length ct] 26)).alloc (.cells #[.slice ua cut.length cu] 26))
  have HX2 := Lib.hid ((Box.newAt ((w.alloc (.cells #[.slice a1 p.ms.length c1, .slice a2 p.arcs.length c2] 25)).alloc (.cells #[.slice sa src.length cs] 26)) #[.slice ta snk.length ct] 26 (n := w.heap.size + 1 + 1) (by simp)).alloc (.cells #[.slice ua cut.length cu] 26))
  have HX3 := Lib.hid (Box.newAt (((w.alloc (.cells #[.slice a1 p.ms.length c1, .slice a2 p.arcs.length c2] 25)).alloc (.cells #[.slice sa src.length cs] 26)).alloc (.cells #[.slice ta snk.length ct] 26)) #[.slice ua cut.length cu] 26 (n := w.heap.size + 1 + 1 + 1) (by simp))
  obtain ⟨c, hc⟩ : ∃ c, bothE p src snk = c := ⟨_, rfl⟩
  obtain ⟨q, hq⟩ : ∃ c, unkE p.ms.length cut = c := ⟨_, rfl⟩
  have HC := Lib.hid hc
  have HQU := Lib.hid hq
  have HE : Hid ((if c ≠ 0 then c else if q ≠ 0 then q else if cutB p src snk cut then 18 else 0) = cutE p src snk cut) := Lib.hid (by unfold cutE; rw [hc, hq])
  rw [hc] at HP
  rw [hq] at HUK
  generalize cutE p src snk cut = V at *
  clear hc hq
  go_enter Tryz.func75, Tryz.ntmps75
  by_cases h0 : c = 0
  rotate_left
  · have k0 : (c != 0) = true := bne_iff_ne.2 h0
    have HV2 : Hid (c = V) := Lib.hid (by have := HE.out; rwa [if_pos h0] at this)
    clear HE h0
    go_wp2_with (go_at_call 118; refine (HP.out _ HB.out).mono ?_; rintro e w2 ⟨rfl, hb2⟩; have HB2 := Lib.hid (HB.out.trans (hb2.mono HB.out.size)); clear hb2)
    exact HQ.out _ _ HB2.out HV2.out
  subst h0
  have A118 : True := trivial
  by_cases h1 : q = 0
  rotate_left
  · have k1 : (q != 0) = true := bne_iff_ne.2 h1
    have HV2 : Hid (q = V) := Lib.hid (by have := HE.out; rwa [if_neg (by simp), if_pos h1] at this)
    clear HE h1
    go_wp2_with (first | (go_at_call 118; refine (HP.out _ HB.out).mono ?_; rintro e w2 ⟨rfl, hb2⟩; have HB2 := Lib.hid (HB.out.trans (hb2.mono HB.out.size)); obtain ⟨x0, x1, xf, xz⟩ := (HX.out.later hb2).v2; have y0 := (HX3.out.later hb2).cell 0; have yz := (HX3.out.later hb2).lt; clear hb2; simp only [List.getElem?_cons_zero] at y0) | (go_at_call 79; refine (HUK.out _ HB2.out).mono ?_; rintro e w3 ⟨rfl, hb3⟩; have HB3 := Lib.hid (HB2.out.trans (hb3.mono HB2.out.size)); clear hb3))
    exact HQ.out _ _ HB3.out HV2.out
  subst h1
  have HV2 : Hid ((if cutB p src snk cut then 18 else 0) = V) := Lib.hid (by have := HE.out; rwa [if_neg (by simp), if_neg (by simp)] at this)
  clear HE
  go_wp2_with (first | (go_at_call 118; refine (HP.out _ HB.out).mono ?_; rintro e w2 ⟨rfl, hb2⟩; have HB2 := Lib.hid (HB.out.trans (hb2.mono HB.out.size)); have HY := Lib.hid (HX.out.later hb2); have HY1 := Lib.hid (HX1.out.later hb2); have HY2 := Lib.hid (HX2.out.later hb2); have HY3 := Lib.hid (HX3.out.later hb2); obtain ⟨x0, x1, xf, xz⟩ := HY.out.v2; have y0 := HY3.out.cell 0; have yz := HY3.out.lt; clear hb2; simp only [List.getElem?_cons_zero] at y0) | (go_at_call 79; refine (HUK.out _ HB2.out).mono ?_; rintro e w3 ⟨rfl, hb3⟩; have HB3 := Lib.hid (HB2.out.trans (hb3.mono HB2.out.size)); have HZ := Lib.hid (HY.out.later hb3); have HZ1 := Lib.hid (HY1.out.later hb3); have HZ2 := Lib.hid (HY2.out.later hb3); have HZ3 := Lib.hid (HY3.out.later hb3); clear hb3; have z0 := HZ1.out.cell 0; have zz := HZ1.out.lt; have zz2 := HZ.out.lt; simp only [List.getElem?_cons_zero] at z0))
  have hok := bothE_ok HC.out
  have HCC := Lib.hid (cut_call (cut := cut) (snk := snk) _ rfl hok.1 hok.2.in1 HWD.out HPL.out HS.out HTT.out HUU.out HB3.out HZ.out HZ1.out HZ2.out HZ3.out)
  generalize cutB p src snk cut = R at *
  clear hok
  cases R with
  | true =>
    have HV3 : Hid ((18 : Int) = V) := Lib.hid (by have := HV2.out; rwa [if_pos rfl] at this)
    refine HCC.out.mono ?_
    rintro e w9 ⟨rfl, hb9⟩
    go_wp2_with fail
    exact HQ.out _ _ hb9 HV3.out
  | false =>
    have HV3 : Hid ((0 : Int) = V) := Lib.hid (by have := HV2.out; rwa [if_neg (by simp)] at this)
    refine HCC.out.mono ?_
    rintro e w9 ⟨rfl, hb9⟩
    go_wp2_with fail
    exact HQ.out _ _ hb9 HV3.out
end Go.Proofs.YtahpdkkpnkhnhaaGreatDoor

/- Walks: the example. -/
namespace Go.Proofs.YtahpdkkpnkhnhaaGreatDoor
open Go Go.Proofs Go.RowKit Go.Shelf

/-- The plant of the document's examples. -/
def exP : Pl := ⟨[⟨⟨#[112, 105, 116]⟩, 0⟩, ⟨⟨#[98, 101, 108, 116]⟩, 20⟩, ⟨⟨#[108, 101, 103]⟩, 30⟩, ⟨⟨#[100, 105, 115, 116, 114, 105, 98, 117, 116, 111, 114]⟩, 5⟩, ⟨⟨#[98, 105, 110]⟩, 0⟩, ⟨⟨#[98, 105, 110]⟩, 0⟩, ⟨⟨#[98, 101, 108, 116]⟩, 40⟩, ⟨⟨#[115, 112, 111, 117, 116]⟩, 0⟩, ⟨⟨#[103, 97, 116, 101]⟩, 2⟩], [⟨0, 1⟩, ⟨1, 2⟩, ⟨2, 3⟩, ⟨3, 4⟩, ⟨3, 5⟩, ⟨4, 8⟩, ⟨8, 6⟩, ⟨5, 6⟩, ⟨6, 7⟩, ⟨3, 6⟩]⟩
def ExPost (w : World) (e : Ending) (w' : World) : Prop := ∃ g1 g2, e = .returned (.agg #[.slice (some ⟨g1, 0, none⟩) 9 9, .slice (some ⟨g2, 0, none⟩) 10 10]) ∧ PlR w' w'.heap.size (.slice (some ⟨g1, 0, none⟩) 9 9) (.slice (some ⟨g2, 0, none⟩) 10 10) exP ∧ Below w.heap.size w w'
theorem ex_post (w : World) (x : Array Value) (e1 : TypeId) : ExPost w (.returned (.agg #[.slice (some ⟨w.heap.size + 1, 0, none⟩) 9 9, .slice (some ⟨w.heap.size + 1 + 1, 0, none⟩) 10 10]))
    (((w.alloc (.cells x e1)).alloc (.cells #[.string ⟨#[112, 105, 116]⟩, .int .i64 0, .string ⟨#[98, 101, 108, 116]⟩, .int .i64 20, .string ⟨#[108, 101, 103]⟩, .int .i64 30, .string ⟨#[100, 105, 115, 116, 114, 105, 98, 117, 116, 111, 114]⟩, .int .i64 5, .string ⟨#[98, 105, 110]⟩, .int .i64 0, .string ⟨#[98, 105, 110]⟩, .int .i64 0, .string ⟨#[98, 101, 108, 116]⟩, .int .i64 40, .string ⟨#[115, 112, 111, 117, 116]⟩, .int .i64 0, .string ⟨#[103, 97, 116, 101]⟩, .int .i64 2] 65)).alloc (.cells #[.int .i64 0, .int .i64 1, .int .i64 1, .int .i64 2, .int .i64 2, .int .i64 3, .int .i64 3, .int .i64 4, .int .i64 3, .int .i64 5, .int .i64 4, .int .i64 8, .int .i64 8, .int .i64 6, .int .i64 5, .int .i64 6, .int .i64 6, .int .i64 7, .int .i64 3, .int .i64 6] 123)) := by
  refine ⟨_, _, rfl, ⟨?_, ?_⟩, ?_⟩
  · have h := Sl.litAt Mc.enc_len exP.ms (w.alloc (.cells x e1)) #[.string ⟨#[112, 105, 116]⟩, .int .i64 0, .string ⟨#[98, 101, 108, 116]⟩, .int .i64 20, .string ⟨#[108, 101, 103]⟩, .int .i64 30, .string ⟨#[100, 105, 115, 116, 114, 105, 98, 117, 116, 111, 114]⟩, .int .i64 5, .string ⟨#[98, 105, 110]⟩, .int .i64 0, .string ⟨#[98, 105, 110]⟩, .int .i64 0, .string ⟨#[98, 101, 108, 116]⟩, .int .i64 40, .string ⟨#[115, 112, 111, 117, 116]⟩, .int .i64 0, .string ⟨#[103, 97, 116, 101]⟩, .int .i64 2] 65 9 (w.heap.size + 1) (by simp) rfl rfl (by simp [exP])
    exact h.later ((Below.refl _ _).alloc (Nat.le_refl _) _)
  · exact Sl.litAt Ar.enc_len exP.arcs ((w.alloc (.cells x e1)).alloc (.cells #[.string ⟨#[112, 105, 116]⟩, .int .i64 0, .string ⟨#[98, 101, 108, 116]⟩, .int .i64 20, .string ⟨#[108, 101, 103]⟩, .int .i64 30, .string ⟨#[100, 105, 115, 116, 114, 105, 98, 117, 116, 111, 114]⟩, .int .i64 5, .string ⟨#[98, 105, 110]⟩, .int .i64 0, .string ⟨#[98, 105, 110]⟩, .int .i64 0, .string ⟨#[98, 101, 108, 116]⟩, .int .i64 40, .string ⟨#[115, 112, 111, 117, 116]⟩, .int .i64 0, .string ⟨#[103, 97, 116, 101]⟩, .int .i64 2] 65)) #[.int .i64 0, .int .i64 1, .int .i64 1, .int .i64 2, .int .i64 2, .int .i64 3, .int .i64 3, .int .i64 4, .int .i64 3, .int .i64 5, .int .i64 4, .int .i64 8, .int .i64 8, .int .i64 6, .int .i64 5, .int .i64 6, .int .i64 6, .int .i64 7, .int .i64 3, .int .i64 6] 123 10 (w.heap.size + 1 + 1) (by simp) rfl rfl (by simp [exP])
  · exact (((Below.refl _ _).alloc (Nat.le_refl _) _).alloc (by simp) _).alloc (by simp; omega) _
set_option maxRecDepth 100000 in
set_option maxHeartbeats 1000000 in
theorem example78 (w : World) : Calls Tryz.prog 78 #[] w (ExPost w) := by
  go_enter Tryz.func78, Tryz.ntmps78
  go_wp2_with fail
  refine bodyPost_ret (v := .agg #[.slice (some ⟨w.heap.size + 1, 0, none⟩) 9 9, .slice (some ⟨w.heap.size + 1 + 1, 0, none⟩) 10 10]) (by simp [results, Tryz.results78, go_sem]) rfl ?_
  exact ex_post w _ _
end Go.Proofs.YtahpdkkpnkhnhaaGreatDoor
