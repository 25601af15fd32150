/- Lemmas on the way to the laws (part 22): Ue Uf Ug -/
import Derived.Test.YtlakcghdehdeiaaLib21
import Derived.Test.YtlakcghdehdeiaaLib13
import Derived.RegionTactic
import Derived.BigRegion
set_option linter.unusedVariables false
set_option linter.unusedSimpArgs false

/- Walks: cut, Conflict; a cut shows that there is no assignment. -/
namespace Go.Proofs.Ytlakcghdehdeiaa
open Go Go.Proofs Go.RowKit

/-- The places that a search has parted from the outside. -/
def cutN (rc : List Bool) (k : Nat) : List Nat := (List.range k).filter fun p => rc.getD (p + 1) false != rc.getD 0 false
theorem cutN_succ (rc : List Bool) (k : Nat) : cutN rc (k + 1) = cutN rc k ++ if (rc.getD (k + 1) false != rc.getD 0 false) = true then [k] else [] := by
  unfold cutN
  rw [List.range_succ, List.filter_append]
  congr 1
  simp [List.filter_cons]
theorem cutN_mem {rc : List Bool} {k p : Nat} : p ∈ cutN rc k ↔ p < k ∧ rc.getD (p + 1) false ≠ rc.getD 0 false := by
  unfold cutN
  rw [List.mem_filter, List.mem_range]
  simp
theorem cutN_nodup (rc : List Bool) (k : Nat) : (cutN rc k).Nodup := List.nodup_range.filter _
theorem cutN_len (rc : List Bool) (k : Nat) : (cutN rc k).length ≤ k := by
  have := List.length_filter_le (fun p => rc.getD (p + 1) false != rc.getD 0 false) (List.range k)
  simpa [cutN] using this

set_option maxRecDepth 100000 in
set_option maxHeartbeats 1000000 in
theorem cut81 (w : World) (B nb : Nat) (v : Value) (l : List Ac) (tk pl : Nat) (rc : List Bool) (hn : NetR w B nb v l tk pl rc) (hpl : pl ≤ 32) :
    Calls Try.prog 81 #[.pointer (some ⟨nb, 0, none⟩)] w (OwnPost encI 1 3 (outI (cutN rc pl)) w) := by
  have HN := Lib.hid (fun (w1 : World) (hb : Below w.heap.size w w1) => hn.box.later hb)
  have h36 := hn.n36
  have hz := hn.box.lt
  have hc2 := hn.box.cell 2
  simp only [netCells, List.getElem?_cons_zero, List.getElem?_cons_succ] at hc2
  have HC : Hid (∀ (w1 : World), Below w.heap.size w w1 → ∀ j, j < 36 → w1.cell? ⟨nb, 3 + j, none⟩ = some (.bool (rc.getD j false))) := Lib.hid (fun w1 hb j hj => by
    rw [(hn.box.later hb).cell, show 3 + j = j + 1 + 1 + 1 by omega]
    simp only [netCells, List.getElem?_cons_succ, List.getElem?_map, List.getD_eq_getElem?_getD]
    rw [List.getElem?_eq_getElem (by omega)]; rfl)
  clear hn
  go_enter Try.func81, Try.ntmps81
  go_wp2_with fail
  go_loopw [9, 3] (fun i o wr => ∃ (k : Nat) (vo : Value), k ≤ pl ∧ i = .int .i64 k ∧ o = vo ∧ Below w.heap.size w wr ∧ Own encI 1 3 wr w.heap.size vo (outI (cutN rc k))) (fun i _ _ => pl - (intOf i).toNat)
  case atStart => exact ⟨0, _, by omega, rfl, rfl, Below.refl _ _, Own.nil _ _ _ _ _⟩
  case round =>
    clear hz hc2
    obtain ⟨k, vo, hk, rfl, rfl, hbe, hown⟩ := hrel
    by_cases hlt : k < pl
    · have c0 := HC.out wr hbe 0 (by omega)
      have c1 := HC.out wr hbe (k + 1) (by omega)
      rw [Nat.add_zero] at c0
      have hz := (HN.out wr hbe).lt
      have HST := Lib.hid (cutN_succ rc k)
      have HBE := Lib.hid hbe
      have HOW := Lib.hid hown
      have HLE := Lib.hid (show (outI (cutN rc k)).length ≤ 1000000 by have := cutN_len rc k; simp; omega)
      clear hbe hown
      cases hp : rc.getD (k + 1) false <;> cases hq : rc.getD 0 false
      · rw [hp] at c1 HST
        rw [hq] at c0 HST
        have d1 : IntKind.i64.wrap ((k : Int) + 1) = (k : Int) + 1 := IntWalk.i64_in _ (by omega)
        have d2 : ((k : Int) + 1).toNat = k + 1 := by omega
        have d3 : (k : Int) + 1 < 36 := by omega
        go_wp2_with fail
        go_quiet (fail)
        have HBE2 := Lib.hid (HBE.out.trans ((below_drewN (Below.refl wr.heap.size wr) nq).mono HBE.out.size))
        have HOW2 := Lib.hid (HOW.out.drewN nq)
        generalize wr.drewN nq = w2 at *
        clear nq d1 d2 d3 c0 c1 hz
        go_wp2_with fail
        go_roundw
        case rel => exact ⟨k + 1, _, by omega, by go_num, rfl, HBE2.out, by rw [HST.out]; simpa using HOW2.out⟩
        case measure => simp [intOf]; omega
      · rw [hp] at c1 HST
        rw [hq] at c0 HST
        have d1 : IntKind.i64.wrap ((k : Int) + 1) = (k : Int) + 1 := IntWalk.i64_in _ (by omega)
        have d2 : ((k : Int) + 1).toNat = k + 1 := by omega
        have d3 : (k : Int) + 1 < 36 := by omega
        go_wp2_with fail
        go_quiet (fail)
        have HBE2 := Lib.hid (HBE.out.trans ((below_drewN (Below.refl wr.heap.size wr) nq).mono HBE.out.size))
        have HOW2 := Lib.hid (HOW.out.drewN nq)
        generalize wr.drewN nq = w2 at *
        clear nq d1 d2 d3 c0 c1 hz
        have HOA := Lib.hid (HOW2.out.alloc (.cells #[.int .i64 (k : Int)] 3))
        have HSZ := Lib.hid (show w.heap.size ≤ (w2.alloc (.cells #[.int .i64 (k : Int)] 3)).heap.size by have := HBE2.out.size; simp; omega)
        have HBA := Lib.hid (HBE2.out.alloc HBE2.out.size (.cells #[.int .i64 (k : Int)] 3))
        go_wp2_with (at_builtin; (refine wpList_pushB encI 1 8 22 3 _ Try.underlying22 Try.infoI rfl (by decide) (by decide) encI_len encI_one (outI (cutN rc k)) (k : Int) w.heap.size _ _ _ _ (row_here (by simp)) rfl _ HOA.out HSZ.out HLE.out rfl _ _ rfl rfl rfl ?_); intro v' w' hown' hg')
        go_roundw
        case rel =>
          refine ⟨k + 1, _, by omega, by go_num, rfl, grown_below HBA.out hg' HBA.out.size HOA.out.lt' (Nat.le_refl _), ?_⟩
          rw [HST.out]
          simpa [outI] using hown'
        case measure => simp [intOf]; omega
      · rw [hp] at c1 HST
        rw [hq] at c0 HST
        have d1 : IntKind.i64.wrap ((k : Int) + 1) = (k : Int) + 1 := IntWalk.i64_in _ (by omega)
        have d2 : ((k : Int) + 1).toNat = k + 1 := by omega
        have d3 : (k : Int) + 1 < 36 := by omega
        go_wp2_with fail
        go_quiet (fail)
        have HBE2 := Lib.hid (HBE.out.trans ((below_drewN (Below.refl wr.heap.size wr) nq).mono HBE.out.size))
        have HOW2 := Lib.hid (HOW.out.drewN nq)
        generalize wr.drewN nq = w2 at *
        clear nq d1 d2 d3 c0 c1 hz
        have HOA := Lib.hid (HOW2.out.alloc (.cells #[.int .i64 (k : Int)] 3))
        have HSZ := Lib.hid (show w.heap.size ≤ (w2.alloc (.cells #[.int .i64 (k : Int)] 3)).heap.size by have := HBE2.out.size; simp; omega)
        have HBA := Lib.hid (HBE2.out.alloc HBE2.out.size (.cells #[.int .i64 (k : Int)] 3))
        go_wp2_with (at_builtin; (refine wpList_pushB encI 1 8 22 3 _ Try.underlying22 Try.infoI rfl (by decide) (by decide) encI_len encI_one (outI (cutN rc k)) (k : Int) w.heap.size _ _ _ _ (row_here (by simp)) rfl _ HOA.out HSZ.out HLE.out rfl _ _ rfl rfl rfl ?_); intro v' w' hown' hg')
        go_roundw
        case rel =>
          refine ⟨k + 1, _, by omega, by go_num, rfl, grown_below HBA.out hg' HBA.out.size HOA.out.lt' (Nat.le_refl _), ?_⟩
          rw [HST.out]
          simpa [outI] using hown'
        case measure => simp [intOf]; omega
      · rw [hp] at c1 HST
        rw [hq] at c0 HST
        have d1 : IntKind.i64.wrap ((k : Int) + 1) = (k : Int) + 1 := IntWalk.i64_in _ (by omega)
        have d2 : ((k : Int) + 1).toNat = k + 1 := by omega
        have d3 : (k : Int) + 1 < 36 := by omega
        go_wp2_with fail
        go_quiet (fail)
        have HBE2 := Lib.hid (HBE.out.trans ((below_drewN (Below.refl wr.heap.size wr) nq).mono HBE.out.size))
        have HOW2 := Lib.hid (HOW.out.drewN nq)
        generalize wr.drewN nq = w2 at *
        clear nq d1 d2 d3 c0 c1 hz
        go_wp2_with fail
        go_roundw
        case rel => exact ⟨k + 1, _, by omega, by go_num, rfl, HBE2.out, by rw [HST.out]; simpa using HOW2.out⟩
        case measure => simp [intOf]; omega
    · obtain rfl : pl = k := by omega
      have HBE := Lib.hid hbe
      have HOW := Lib.hid hown
      clear hbe hown
      go_wp2_with fail
      go_ret
      exact ⟨_, rfl, HOW.out, HBE.out⟩

theorem tot_filter {α β : Type} (f : β → Int) (g : α → β) (q : α → Bool) : ∀ l : List α, tot f ((l.filter q).map g) = tot (fun x => if q x = true then f (g x) else 0) l
  | [] => rfl
  | x :: l => by
    rw [List.filter_cons]
    by_cases h : q x = true
    · rw [if_pos h]
      simp only [List.map_cons, tot]
      rw [if_pos h, tot_filter f g q l]
    · rw [if_neg h]
      simp only [tot]
      rw [if_neg h, tot_filter f g q l]; omega
theorem tot_map {α β : Type} (f : β → Int) (g : α → β) : ∀ l : List α, tot f (l.map g) = tot (fun x => f (g x)) l
  | [] => rfl
  | x :: l => by simp only [List.map_cons, tot]; rw [tot_map f g l]

/-- A cut shows that there is no assignment. -/
theorem shows_cut {b : Bk} {rc : List Bool} (hok : OkBk b) (h : 0 < cutv (fun x => rc.getD x false) (arcsOf b)) : ShowsP b (outI (cutN rc b.st.length)) := by
  have hin : ∀ x : Int, -1 ≤ x → x < b.st.length → (x ∈ outI (cutN rc b.st.length) ↔ rc.getD (x + 1).toNat false ≠ rc.getD 0 false) := fun x h1 h2 => by
    constructor
    · intro hx
      obtain ⟨p, hp, rfl⟩ := List.mem_map.1 hx
      have := (cutN_mem.1 hp).2
      have e : ((p : Int) + 1).toNat = p + 1 := by omega
      rw [e]; exact this
    · intro hx
      by_cases hm : x = -1
      · subst hm; exact absurd rfl hx
      · refine List.mem_map.2 ⟨x.toNat, cutN_mem.2 ⟨by omega, ?_⟩, by omega⟩
        have e : (x + 1).toNat = x.toNat + 1 := by omega
        rw [← e]; exact hx
  have hcut : cutv (fun x => rc.getD x false) (arcsOf b) = tot (fun t : Tk => Ac.least (fun x => rc.getD x false) (tkAc t)) b.ts + tot (fun p : Nat => Ac.least (fun x => rc.getD x false) (stAc p (b.st.getD p default))) (List.range b.st.length) := by
    unfold cutv arcsOf stTo
    rw [tot_append, tot_map, tot_map]
  have hlo : stLo b (outI (cutN rc b.st.length)) = tot (fun p : Nat => if (rc.getD (p + 1) false != rc.getD 0 false) = true then (b.st.getD p default).lo else 0) (List.range b.st.length) := by
    unfold stLo outI cutN
    rw [tot_filter]; rfl
  have hhi : stHi b (outI (cutN rc b.st.length)) = tot (fun p : Nat => if (rc.getD (p + 1) false != rc.getD 0 false) = true then (b.st.getD p default).hi else 0) (List.range b.st.length) := by
    unfold stHi outI cutN
    rw [tot_filter]; rfl
  rw [hcut] at h
  cases h0 : rc.getD 0 false with
  | false =>
    right
    have e1 : tot (fun t : Tk => Ac.least (fun x => rc.getD x false) (tkAc t)) b.ts = comLo (outI (cutN rc b.st.length)) b.ts - goHi (outI (cutN rc b.st.length)) b.ts := by
      unfold comLo goHi
      rw [← tot_sub]
      refine tot_congr _ _ _ fun t ht => ?_
      obtain ⟨k1, k2, k3, k4, _⟩ := hok.tk t ht
      have i1 := hin t.fr k1 k2
      have i2 := hin t.to k3 k4
      rw [h0] at i1 i2
      simp only [Ac.least, tkAc]
      have c1 : (rc.getD (t.to + 1).toNat false = true ∧ rc.getD (t.fr + 1).toNat false = false) ↔ (t.to ∈ outI (cutN rc b.st.length) ∧ t.fr ∉ outI (cutN rc b.st.length)) := by
        rw [i1, i2]
        generalize rc.getD (t.to + 1).toNat false = p1
        generalize rc.getD (t.fr + 1).toNat false = p2
        cases p1 <;> cases p2 <;> simp
      have c2 : (rc.getD (t.fr + 1).toNat false = true ∧ rc.getD (t.to + 1).toNat false = false) ↔ (t.fr ∈ outI (cutN rc b.st.length) ∧ t.to ∉ outI (cutN rc b.st.length)) := by
        rw [i1, i2]
        generalize rc.getD (t.to + 1).toNat false = p1
        generalize rc.getD (t.fr + 1).toNat false = p2
        cases p1 <;> cases p2 <;> simp
      simp only [c1, c2]
    have e2 : tot (fun p : Nat => Ac.least (fun x => rc.getD x false) (stAc p (b.st.getD p default))) (List.range b.st.length) = - stHi b (outI (cutN rc b.st.length)) := by
      rw [hhi]
      have : ∀ (l : List Nat), tot (fun p : Nat => Ac.least (fun x => rc.getD x false) (stAc p (b.st.getD p default))) l = - tot (fun p : Nat => if (rc.getD (p + 1) false != rc.getD 0 false) = true then (b.st.getD p default).hi else 0) l := fun l => by
        induction l with
        | nil => rfl
        | cons p l ih =>
          simp only [tot]
          rw [ih, h0]
          simp only [Ac.least, stAc, h0]
          cases rc.getD (p + 1) false <;> simp <;> omega
      exact this _
    omega
  | true =>
    left
    have e1 : tot (fun t : Tk => Ac.least (fun x => rc.getD x false) (tkAc t)) b.ts = goLo (outI (cutN rc b.st.length)) b.ts - comHi (outI (cutN rc b.st.length)) b.ts := by
      unfold goLo comHi
      rw [← tot_sub]
      refine tot_congr _ _ _ fun t ht => ?_
      obtain ⟨k1, k2, k3, k4, _⟩ := hok.tk t ht
      have i1 := hin t.fr k1 k2
      have i2 := hin t.to k3 k4
      rw [h0] at i1 i2
      simp only [Ac.least, tkAc]
      have c1 : (rc.getD (t.to + 1).toNat false = true ∧ rc.getD (t.fr + 1).toNat false = false) ↔ (t.fr ∈ outI (cutN rc b.st.length) ∧ t.to ∉ outI (cutN rc b.st.length)) := by
        rw [i1, i2]
        generalize rc.getD (t.to + 1).toNat false = p1
        generalize rc.getD (t.fr + 1).toNat false = p2
        cases p1 <;> cases p2 <;> simp
      have c2 : (rc.getD (t.fr + 1).toNat false = true ∧ rc.getD (t.to + 1).toNat false = false) ↔ (t.to ∈ outI (cutN rc b.st.length) ∧ t.fr ∉ outI (cutN rc b.st.length)) := by
        rw [i1, i2]
        generalize rc.getD (t.to + 1).toNat false = p1
        generalize rc.getD (t.fr + 1).toNat false = p2
        cases p1 <;> cases p2 <;> simp
      simp only [c1, c2]
    have e2 : tot (fun p : Nat => Ac.least (fun x => rc.getD x false) (stAc p (b.st.getD p default))) (List.range b.st.length) = stLo b (outI (cutN rc b.st.length)) := by
      rw [hlo]
      refine tot_congr _ _ _ fun p hp => ?_
      simp only [Ac.least, stAc, h0]
      cases rc.getD (p + 1) false <;> simp
    omega
end Go.Proofs.Ytlakcghdehdeiaa

/- Walks: Conflict; the reference's Shows. -/
namespace Go.Proofs.Ytlakcghdehdeiaa
open Go Go.Proofs Go.RowKit

/-- What Conflict returns. -/
def ConfPost (w : World) (b : Bk) (e : Ending) (w' : World) : Prop :=
  Below w.heap.size w w' ∧ ((ckBook b ≠ 0 ∧ e = .returned (.tuple #[.slice none 0 0, .int .i64 (ckBook b)])) ∨ (ckBook b = 0 ∧ Con b ∧ e = .returned (.tuple #[.slice none 0 0, .int .i64 7])) ∨
    (ckBook b = 0 ∧ ¬ Con b ∧ ∃ v rc, e = .returned (.tuple #[v, .int .i64 0]) ∧ Sl encI 1 w' w'.heap.size v (outI (cutN rc b.st.length)) ∧ ShowsP b (outI (cutN rc b.st.length))))

set_option maxRecDepth 100000 in
set_option maxHeartbeats 1000000 in
theorem conflict44 (w : World) (v1 v2 : Value) (b : Bk) (hv : BkR w w.heap.size v1 v2 b) : Calls Try.prog 44 #[.agg #[v1, v2]] w (ConfPost w b) := by
  have HCK := Lib.hid (fun (w1 : World) (hb : Below w.heap.size w w1) => ckBook25 v1 v2 b w1 (hv.later hb))
  have HST := Lib.hid (fun (w1 : World) (hb : Below w.heap.size w w1) (hok : OkBk b) => settle72 w1 v1 v2 b hok (hv.later hb))
  obtain ⟨⟨a1, n1, hv1, hl1, hA1⟩, ⟨a2, n2, hv2, hl2, hA2⟩, hids⟩ := hv
  subst hv1 hv2
  clear hA1 hA2 hids
  obtain ⟨CK, hCK⟩ : ∃ CK, ckBook b = CK := ⟨_, rfl⟩
  rw [hCK] at HCK
  have ECK := Lib.hid hCK
  clear hCK
  go_enter Try.func44, Try.ntmps44
  go_wp2_with fail
  refine (HCK.out _ ((Below.refl _ _).alloc (Nat.le_refl _) _)).mono ?_
  rintro e w1 ⟨rfl, hb1⟩
  have HX1 := Lib.hid ((Box.new w #[.slice a1 b.st.length n1, .slice a2 b.ts.length n2] 38).later hb1)
  have HB1 := Lib.hid (((Below.refl w.heap.size w).alloc (Nat.le_refl _) (.cells #[.slice a1 b.st.length n1, .slice a2 b.ts.length n2] 38)).trans (hb1.mono (by simp)))
  clear hb1
  obtain ⟨x0, x1, xf, xz⟩ := HX1.out.v2
  by_cases h0 : CK = 0
  · subst h0
    have HOK := Lib.hid (okBk_of ECK.out)
    have h32 := HOK.out.st32
    go_wp2_with fail
    refine (HST.out _ HB1.out HOK.out).mono ?_
    intro e w2 hpost
    obtain ⟨ok, nb, v, l, rc, rfl, hnet, hb2, hnb, hsh, hft, hcon, hyes, hno⟩ := settle_con HOK.out hpost
    have HB2 := Lib.hid (HB1.out.trans (hb2.mono HB1.out.size))
    clear hpost hb2 x0 x1 xf xz HX1
    cases ok with
    | true =>
      have hcc := hcon.1 rfl
      clear hnet hnb hsh hft hcon hyes hno
      go_wp2_with fail
      refine bodyPost_ret (results_tmp2 rfl _ _ _) rfl ?_
      exact ⟨HB2.out, .inr (.inl ⟨ECK.out, hcc, rfl⟩)⟩
    | false =>
      have hnc : ¬ Con b := fun h => by have := hcon.2 h; cases this
      have HSH := Lib.hid (shows_cut HOK.out (hno rfl))
      have HC := Lib.hid (cut81 w2 _ nb v l _ _ rc hnet h32)
      clear hnet hnb hsh hft hcon hyes hno
      go_wp2_with fail
      refine HC.out.mono ?_
      rintro e w3 ⟨vo, rfl, ho, hb3⟩
      have HO := Lib.hid (ho.toSl encI_len (by have := cutN_len rc b.st.length; simp; omega))
      have HB3 := Lib.hid (HB2.out.trans (hb3.mono HB2.out.size))
      clear ho hb3
      go_wp2_with fail
      refine bodyPost_ret (results_tmp2 rfl _ _ _) rfl ?_
      exact ⟨HB3.out, .inr (.inr ⟨ECK.out, hnc, _, rc, rfl, HO.out, HSH.out⟩)⟩
  · have b0 : (CK == 0) = false := beq_eq_false_iff_ne.2 h0
    go_wp2_with fail
    refine bodyPost_ret (results_tmp2 rfl _ _ _) rfl ?_
    exact ⟨HB1.out, .inl ⟨by rw [ECK.out]; exact h0, by rw [ECK.out]; rfl⟩⟩

/-- A sum over places by their numbers. -/
theorem sum_pl (f : Nat → Int) (n : Nat) : ∀ P : List Int, P.Nodup → (∀ p ∈ P, 0 ≤ p ∧ p < n) → sumN n (fun p => if (p : Int) ∈ P then f p else 0) = tot (fun p : Int => f p.toNat) P
  | [], _, _ => by simp [tot, sumN_zero]
  | x :: P, hn, hp => by
    obtain ⟨hx, hn'⟩ := List.nodup_cons.1 hn
    have h1 := sum_pl f n P hn' fun p h => hp p (List.mem_cons_of_mem _ h)
    have h2 := hp x (by simp)
    simp only [tot]
    rw [← h1]
    have h3 := sumN_one n x.toNat (f x.toNat) (by omega)
    rw [← h3, ← sumN_add]
    refine sumN_congr n _ _ fun v hv => ?_
    by_cases e : v = x.toNat
    · subst e
      have e2 : ((x.toNat : Nat) : Int) = x := by omega
      rw [e2, if_pos (by simp), if_pos rfl, if_neg hx]; omega
    · have e2 : ¬ (v : Int) = x := by omega
      rw [if_neg e]
      by_cases h : (v : Int) ∈ P
      · rw [if_pos (by simp [h]), if_pos h]; omega
      · rw [if_neg (by simp [h, e2]), if_neg h]; omega
def sLo (b : Bk) (P : List Int) (k : Nat) : Int := sumN k fun p => if (p : Int) ∈ P then (b.st.getD p default).lo else 0
def sHi (b : Bk) (P : List Int) (k : Nat) : Int := sumN k fun p => if (p : Int) ∈ P then (b.st.getD p default).hi else 0
theorem sLo_bd {b : Bk} (hok : OkBk b) (P : List Int) : ∀ k, k ≤ b.st.length → (-(k * 999999999 : Int) ≤ sLo b P k ∧ sLo b P k ≤ k * 999999999) ∧ (-(k * 999999999 : Int) ≤ sHi b P k ∧ sHi b P k ≤ k * 999999999)
  | 0, _ => by simp [sLo, sHi, sumN]
  | k + 1, h => by
    have ih := sLo_bd hok P k (by omega)
    have hk : b.st.getD k default = b.st[k] := by rw [List.getD_eq_getElem?_getD, List.getElem?_eq_getElem (by omega)]; rfl
    have := hok.st b.st[k] (List.getElem_mem (by omega))
    unfold sLo sHi at ih ⊢
    simp only [sumN]
    rw [hk]
    split <;> omega
theorem com_bd {P : List Int} : ∀ {ts : List Tk}, (∀ t ∈ ts, 0 ≤ t.m.lo ∧ t.m.lo ≤ t.m.hi ∧ t.m.hi ≤ 999999999) → (0 ≤ comLo P ts ∧ comLo P ts ≤ ts.length * 999999999) ∧ (0 ≤ comHi P ts ∧ comHi P ts ≤ ts.length * 999999999) ∧ (0 ≤ goLo P ts ∧ goLo P ts ≤ ts.length * 999999999) ∧ (0 ≤ goHi P ts ∧ goHi P ts ≤ ts.length * 999999999) := fun h => sums_bd h
theorem com_snoc (P : List Int) (ts : List Tk) (t : Tk) : comLo P (ts ++ [t]) = comLo P ts + (if t.to ∈ P ∧ t.fr ∉ P then t.m.lo else 0) ∧ comHi P (ts ++ [t]) = comHi P ts + (if t.to ∈ P ∧ t.fr ∉ P then t.m.hi else 0) ∧
    goLo P (ts ++ [t]) = goLo P ts + (if t.fr ∈ P ∧ t.to ∉ P then t.m.lo else 0) ∧ goHi P (ts ++ [t]) = goHi P ts + (if t.fr ∈ P ∧ t.to ∉ P then t.m.hi else 0) := by
  unfold comLo comHi goLo goHi
  simp only [tot_snoc]
  exact ⟨trivial, trivial, trivial, trivial⟩
end Go.Proofs.Ytlakcghdehdeiaa

/- Walks: the reference's Shows. -/
namespace Go.Proofs.Ytlakcghdehdeiaa
open Go Go.Proofs Go.RowKit

set_option maxRecDepth 100000 in
set_option maxHeartbeats 1000000 in
theorem shows46 (v1 v2 u : Value) (b : Bk) (P : List Int) (w : World) (hok : OkBk b) (hP : OkPl b P) (hv : BkR w w.heap.size v1 v2 b) (hu : Sl encI 1 w w.heap.size u P) (R : Bool) (hR : R = true ↔ ShowsP b P) :
    Calls Try.prog 46 #[.agg #[v1, v2], u] w (Ret (.bool R) w) := by
  have HIN := Lib.hid (fun (w1 : World) (hb : Below w.heap.size w w1) (x : Int) => in76 u P x w1 (hu.later hb))
  have HOK := Lib.hid hok
  have h32 := hok.st32
  have h128 := hok.ts128
  have HR : Hid (R = true ↔ comHi P b.ts - goLo P b.ts < sLo b P b.st.length ∨ sHi b P b.st.length < comLo P b.ts - goHi P b.ts) := Lib.hid (by
    rw [hR]
    unfold ShowsP stLo stHi sLo sHi
    rw [sum_pl (fun p => (b.st.getD p default).lo) b.st.length P hP.nodup hP.inr, sum_pl (fun p => (b.st.getD p default).hi) b.st.length P hP.nodup hP.inr])
  obtain ⟨⟨a1, n1, hv1, hl1, hA1⟩, ⟨a2, n2, hv2, hl2, hA2⟩, hids⟩ := hv
  subst hv1 hv2
  obtain ⟨a3, n3, hv3, hl3, hA3⟩ := hu
  subst hv3
  have HA1 := Lib.hid hA1
  clear hA1
  have HA2 := Lib.hid hA2
  clear hA2
  clear hA3 hids hok hP hR
  go_enter Try.func46, Try.ntmps46
  go_wp2_with fail
  go_loopw [7, 5, 6] (fun i lo hi wr => ∃ k : Nat, k ≤ b.st.length ∧ i = .int .i64 k ∧ lo = .int .i64 (sLo b P k) ∧ hi = .int .i64 (sHi b P k) ∧ Below w.heap.size w wr ∧ Box wr w.heap.size 38 [.slice a1 b.st.length n1, .slice a2 b.ts.length n2]) (fun i _ _ _ => b.st.length - (intOf i).toNat)
  case atStart => exact ⟨0, by omega, rfl, rfl, rfl, (Below.refl _ _).alloc (Nat.le_refl _) _, Box.new _ _ _⟩
  case round =>
    obtain ⟨k, hk, rfl, rfl, rfl, hbe, hbx⟩ := hrel
    obtain ⟨x0, x1, xf, xz⟩ := hbx.v2
    by_cases hlt : k < b.st.length
    · obtain ⟨bb, off, rfl, hbb, hcells⟩ := HA1.out (by omega)
      have hc := (hcells k hlt).below hbe hbb
      have hrr := HOK.out.st b.st[k] (List.getElem_mem hlt)
      have hg : b.st.getD k default = b.st[k] := by rw [List.getD_eq_getElem?_getD, List.getElem?_eq_getElem hlt]; rfl
      have hs1 : sLo b P (k + 1) = sLo b P k + if (k : Int) ∈ P then b.st[k].lo else 0 := by unfold sLo; rw [sumN, hg]
      have hs2 : sHi b P (k + 1) = sHi b P k + if (k : Int) ∈ P then b.st[k].hi else 0 := by unfold sHi; rw [sumN, hg]
      have hbd := sLo_bd HOK.out P k (by omega)
      have hbz : bb < wr.heap.size := by have := hbe.size; omega
      obtain ⟨s0, hs0⟩ : ∃ x, sLo b P k = x := ⟨_, rfl⟩
      obtain ⟨s1, hs1'⟩ : ∃ x, sHi b P k = x := ⟨_, rfl⟩
      rw [hs0] at hs1 hbd ⊢
      rw [hs1'] at hs2 hbd ⊢
      generalize b.st[k] = r at *
      obtain ⟨lo, hi⟩ := r
      dsimp only at hrr hs1 hs2
      obtain ⟨e0, e1⟩ := hc.c2
      have HS1 := Lib.hid hs1
      have HS2 := Lib.hid hs2
      have HBE := Lib.hid hbe
      have HBX := Lib.hid hbx
      clear hcells hc hg hs0 hs1' hs1 hs2 hbe hbx
      by_cases hin : (k : Int) ∈ P
      · go_wp2_with fail
        refine (HIN.out wr HBE.out k).mono ?_
        rintro e w3 ⟨rfl, rfl⟩
        rw [decide_eq_true hin]
        go_wp2_with fail
        have d1 : IntKind.i64.wrap (s0 + lo) = s0 + lo := IntWalk.i64_in _ (by omega)
        have d2 : IntKind.i64.wrap (s1 + hi) = s1 + hi := IntWalk.i64_in _ (by omega)
        go_quiet (fail)
        clear d1 d2
        go_wp2_with fail
        go_roundw
        case rel =>
          refine ⟨k + 1, by omega, by go_num, ?_, ?_, below_drewN HBE.out _, HBX.out.later (below_drewN (Below.refl _ _) _)⟩
          · rw [HS1.out, if_pos hin]
          · rw [HS2.out, if_pos hin]
        case measure => simp [intOf]; omega
      · go_wp2_with fail
        refine (HIN.out wr HBE.out k).mono ?_
        rintro e w3 ⟨rfl, rfl⟩
        rw [decide_eq_false hin]
        go_wp2_with fail
        go_roundw
        case rel =>
          refine ⟨k + 1, by omega, by go_num, ?_, ?_, HBE.out, HBX.out⟩
          · rw [HS1.out, if_neg hin, Int.add_zero]
          · rw [HS2.out, if_neg hin, Int.add_zero]
        case measure => simp [intOf]; omega
    · obtain rfl : b.st.length = k := by omega
      have hbd := sLo_bd HOK.out P b.st.length (Nat.le_refl _)
      obtain ⟨sl, hsl⟩ : ∃ x, sLo b P b.st.length = x := ⟨_, rfl⟩
      obtain ⟨sh, hsh⟩ : ∃ x, sHi b P b.st.length = x := ⟨_, rfl⟩
      rw [hsl, hsh] at HR hbd
      rw [hsl, hsh]
      have HBE := Lib.hid hbe
      have HBX := Lib.hid hbx
      clear hbe hbx hsl hsh
      go_wp2_with fail
      go_loopw [10, 8, 9] (fun i le mo wr => ∃ k : Nat, k ≤ b.ts.length ∧ i = .int .i64 k ∧ le = .int .i64 (comLo P (b.ts.take k) - goHi P (b.ts.take k)) ∧ mo = .int .i64 (comHi P (b.ts.take k) - goLo P (b.ts.take k)) ∧ Below w.heap.size w wr ∧ Box wr w.heap.size 38 [.slice a1 b.st.length n1, .slice a2 b.ts.length n2]) (fun i _ _ _ => b.ts.length - (intOf i).toNat)
      case atStart => exact ⟨0, by omega, rfl, rfl, rfl, HBE.out, HBX.out⟩
      case round =>
        clear HBE HBX x0 x1 xf xz
        obtain ⟨k, hk, rfl, rfl, rfl, hbe, hbx⟩ := hrel
        obtain ⟨x0, x1, xf, xz⟩ := hbx.v2
        have hcb := com_bd (P := P) (ts := b.ts.take k) (fun t ht => by have := HOK.out.tk t (List.mem_of_mem_take ht); omega)
        have hlk : ((b.ts.take k).length : Int) ≤ 128 := by have := List.length_take_le k b.ts; omega
        obtain ⟨cl, hcl⟩ : ∃ x, comLo P (b.ts.take k) = x := ⟨_, rfl⟩
        obtain ⟨ch, hch⟩ : ∃ x, comHi P (b.ts.take k) = x := ⟨_, rfl⟩
        obtain ⟨gl, hgl⟩ : ∃ x, goLo P (b.ts.take k) = x := ⟨_, rfl⟩
        obtain ⟨gh, hgh⟩ : ∃ x, goHi P (b.ts.take k) = x := ⟨_, rfl⟩
        rw [hcl, hch, hgl, hgh] at hcb
        rw [hcl, hch, hgl, hgh]
        by_cases hlt : k < b.ts.length
        · obtain ⟨bb, off, rfl, hbb, hcells⟩ := HA2.out (by omega)
          obtain ⟨e0, e1, e2, e3, e4⟩ := ((hcells k hlt).below hbe hbb).c5
          have hbz : bb < wr.heap.size := by have := hbe.size; omega
          have hrr := HOK.out.tk b.ts[k] (List.getElem_mem hlt)
          have hsn := com_snoc P (b.ts.take k) b.ts[k]
          rw [← take_snoc b.ts k hlt, hcl, hch, hgl, hgh] at hsn
          generalize b.ts[k] = t at *
          obtain ⟨tid, fr, to, lo, hi⟩ := t
          dsimp only at hrr hsn e0 e1 e2 e3 e4
          have HSN := Lib.hid hsn
          have hba : Below wr.heap.size wr (wr.alloc (.cells #[.string tid, .int .i64 fr, .int .i64 to, .int .i64 lo, .int .i64 hi] 53)) := (Below.refl _ _).alloc (Nat.le_refl _) _
          have HBE := Lib.hid (hbe.trans (hba.mono hbe.size))
          have HBX := Lib.hid (hbx.later hba)
          have HBT := Lib.hid (Box.new wr #[.string tid, .int .i64 fr, .int .i64 to, .int .i64 lo, .int .i64 hi] 53)
          clear hcells hcl hch hgl hgh hsn hbe hbx hba
          go_wp2_with fail
          generalize wr.alloc (.cells #[.string tid, .int .i64 fr, .int .i64 to, .int .i64 lo, .int .i64 hi] 53) = w2 at *
          generalize wr.heap.size = Bt at *
          clear e0 e1 e2 e3 e4 x0 x1 xf xz
          have t1 := HBT.out.cell 1
          have t2 := HBT.out.cell 2
          simp only [List.getElem?_cons_zero, List.getElem?_cons_succ] at t1 t2
          go_quiet ((go_at_call 76; exact Calls.quiet_of_same ((HIN.out _ (below_drewN HBE.out _) _).mono fun _ _ h => ⟨h.1, h.2.symm⟩)))
          have HB3 := Lib.hid (below_drewN HBE.out nq)
          have HX3 := Lib.hid (HBX.out.later (below_drewN (Below.refl _ _) nq))
          have HT3 := Lib.hid (HBT.out.later (below_drewN (Below.refl _ _) nq))
          generalize w2.drewN nq = w3 at *
          clear nq t1 t2 HBE HBX HBT
          have t3 := HT3.out.cell 3
          have t4 := HT3.out.cell 4
          simp only [List.getElem?_cons_zero, List.getElem?_cons_succ] at t3 t4
          by_cases hf : fr ∈ P
          · by_cases ht : to ∈ P
            · rw [show decide (fr ∈ P) = true from decide_eq_true hf, show decide (to ∈ P) = true from decide_eq_true ht]
              go_wp2_with fail
              go_roundw
              case rel =>
                refine ⟨k + 1, by omega, by go_num, ?_, ?_, HB3.out, HX3.out⟩
                · rw [HSN.out.1, HSN.out.2.2.2, if_neg (fun h => h.2 hf), if_neg (fun h => h.2 ht)]; congr 1; omega
                · rw [HSN.out.2.1, HSN.out.2.2.1, if_neg (fun h => h.2 hf), if_neg (fun h => h.2 ht)]; congr 1; omega
              case measure => simp [intOf]; omega
            · rw [show decide (fr ∈ P) = true from decide_eq_true hf, show decide (to ∈ P) = false from decide_eq_false ht]
              go_wp2_with fail
              have d1 : IntKind.i64.wrap (cl - gh - hi) = cl - gh - hi := IntWalk.i64_in _ (by omega)
              have d2 : IntKind.i64.wrap (ch - gl - lo) = ch - gl - lo := IntWalk.i64_in _ (by omega)
              go_quiet (fail)
              clear d1 d2
              go_wp2_with fail
              go_roundw
              case rel =>
                refine ⟨k + 1, by omega, by go_num, ?_, ?_, below_drewN HB3.out _, HX3.out.later (below_drewN (Below.refl _ _) _)⟩
                · rw [HSN.out.1, HSN.out.2.2.2, if_neg (fun h => ht h.1), if_pos ⟨hf, ht⟩]; congr 1; omega
                · rw [HSN.out.2.1, HSN.out.2.2.1, if_neg (fun h => ht h.1), if_pos ⟨hf, ht⟩]; congr 1; omega
              case measure => simp [intOf]; omega
          · by_cases ht : to ∈ P
            · rw [show decide (fr ∈ P) = false from decide_eq_false hf, show decide (to ∈ P) = true from decide_eq_true ht]
              go_wp2_with fail
              have d1 : IntKind.i64.wrap (cl - gh + lo) = cl - gh + lo := IntWalk.i64_in _ (by omega)
              have d2 : IntKind.i64.wrap (ch - gl + hi) = ch - gl + hi := IntWalk.i64_in _ (by omega)
              go_quiet (fail)
              clear d1 d2
              go_wp2_with fail
              go_roundw
              case rel =>
                refine ⟨k + 1, by omega, by go_num, ?_, ?_, below_drewN HB3.out _, HX3.out.later (below_drewN (Below.refl _ _) _)⟩
                · rw [HSN.out.1, HSN.out.2.2.2, if_pos ⟨ht, hf⟩, if_neg (fun h => hf h.1)]; congr 1; omega
                · rw [HSN.out.2.1, HSN.out.2.2.1, if_pos ⟨ht, hf⟩, if_neg (fun h => hf h.1)]; congr 1; omega
              case measure => simp [intOf]; omega
            · rw [show decide (fr ∈ P) = false from decide_eq_false hf, show decide (to ∈ P) = false from decide_eq_false ht]
              go_wp2_with fail
              go_roundw
              case rel =>
                refine ⟨k + 1, by omega, by go_num, ?_, ?_, HB3.out, HX3.out⟩
                · rw [HSN.out.1, HSN.out.2.2.2, if_neg (fun h => ht h.1), if_neg (fun h => hf h.1)]; congr 1; omega
                · rw [HSN.out.2.1, HSN.out.2.2.1, if_neg (fun h => ht h.1), if_neg (fun h => hf h.1)]; congr 1; omega
              case measure => simp [intOf]; omega
        · obtain rfl : b.ts.length = k := by omega
          rw [List.take_length] at hcl hch hgl hgh
          rw [hcl, hch, hgl, hgh] at HR
          have HBE := Lib.hid hbe
          clear hbe hbx hcl hch hgl hgh
          by_cases hq1 : ch - gl < sl
          · have b1 : decide (ch - gl < sl) = true := decide_eq_true hq1
            have hrt : R = true := HR.out.2 (.inl hq1)
            subst hrt
            go_wp2_with fail
            go_ret
            exact ⟨rfl, HBE.out⟩
          · have b1 : decide (ch - gl < sl) = false := decide_eq_false hq1
            obtain ⟨q, hq⟩ : ∃ q : Bool, decide (sh < cl - gh) = q := ⟨_, rfl⟩
            have hrq : R = q := by
              rw [← hq]
              have h1 := HR.out
              cases R with
              | true => exact (decide_eq_true ((h1.1 rfl).resolve_left hq1)).symm
              | false => exact (decide_eq_false (fun h => by have := h1.2 (.inr h); cases this)).symm
            subst hrq
            have HQ := Lib.hid hq
            clear hq
            go_wp2_with fail
            try rw [HQ.out]
            go_ret
            exact ⟨rfl, HBE.out⟩
end Go.Proofs.Ytlakcghdehdeiaa
