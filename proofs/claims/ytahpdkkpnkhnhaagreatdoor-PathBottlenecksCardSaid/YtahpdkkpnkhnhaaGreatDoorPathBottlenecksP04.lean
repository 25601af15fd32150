/- Lemmas on the way to the law PathBottlenecks (part 4): Rh Td Te -/
import Derived.Test.YtahpdkkpnkhnhaaGreatDoorPathBottlenecksP03
import Derived.Test.YtahpdkkpnkhnhaaGreatDoorPathBottlenecksP01
set_option linter.unusedVariables false
set_option linter.unusedSimpArgs false

/- Walks: a drawn region with one guarded call that runs (the rule of text Rg, the guard decided). -/
namespace Go
open Go.RowKit
section
def Region.partB2 (ops : Array Oper) (b : Nat) (T : Nat → Bool) : Bool :=
  Region.noSelect ops && decide (b < ops.size) && !T b &&
  ((List.range ops.size).all fun i => match ops[i]? with | some o => o.after.all fun e => !Region.binds .any e || decide (e.on < i) | none => true) &&
  ((List.range ops.size).all fun i => (List.range ops.size).all fun j => Region.flowPair ops i j) &&
  ((List.range ops.size).all fun i => T i || ((List.range ops.size).all fun j => !(T j || j == b) || (i == b && j == b) || Region.blindTo ops i j)) &&
  ((List.range ops.size).all fun i => !T i || (List.range ops.size).any fun k => (k == b || T k) && Region.waitsFor .any ops i k)
variable {P : Program} {l : List Oper} {b : Nat} {T : Nat → Bool} {ob : Oper} {W : World} {a0 A1 : Act} {A2 : Value → Act} {D : Value → World → Prop} {Q : Exit → Act → World → Prop}
theorem part_run2 (hB : Region.partB2 l.toArray b T = true) (hob : l[b]? = some ob) (hgw : Region.wanted ob (yielded l.toArray A1.tmps) = true)
    (hq : ∀ Y : Later W, wpQuiet P l.toArray (fun w' => ∃ X : Later2 Y, w' = X.w) (fun a' => a' = A1) (selF (fun i => !T i && !(i == b)) 0 l) a0)
    (hb : ∀ w, Below W.heap.size W w → ∃ fn args, (execOp A1.eval ob).run P w = .ok (.enter fn args) w ∧ Calls P fn args w fun e w' => ∃ v, e = .returned v ∧ D v w' ∧ Below w.heap.size w w')
    (hBp : ∀ v w w', D v w → Below w.heap.size w w' → D v w')
    (hqT : ∀ v w, Below W.heap.size W w → D v w → wpQuiet P l.toArray (fun w' => ∃ X : Later w, w' = X.w) (fun a' => a' = A2 v) (selF T 0 l) (A1.put ob.dst v))
    (ht : ∀ v w, Below W.heap.size W w → D v w → Q .normal (A2 v) w) :
    ∀ (f : Nat) (U : List Nat) (listed : Array Bool) (a : Act) (w : World) (vb : Value), U.length = f → U.Nodup → (∀ i, i ∈ U ↔ i < l.toArray.size ∧ listed.getD i false = false) →
      PartFlow l.toArray b T ob W a0 A1 A2 D listed a w vb → wpAny P .any l.toArray Q f listed a w := by
  simp only [Region.partB2, Bool.and_eq_true, decide_eq_true_eq, List.all_eq_true, List.mem_range, Bool.not_eq_true'] at hB
  obtain ⟨⟨⟨⟨⟨⟨hsel, hbn⟩, hTb⟩, hedge⟩, hpair⟩, hblind⟩, hTw⟩ := hB
  have hget : ∀ i : Nat, l.toArray[i]? = l[i]? := fun i => by simp
  have hselect := Region.noSelect_spec hsel
  have hlt : ∀ {i : Nat} {o : Oper}, l.toArray[i]? = some o → i < l.toArray.size := fun h => (Array.getElem?_eq_some_iff.1 h).1
  have hobA : l.toArray[b]? = some ob := by rw [hget]; exact hob
  have hdist : ∀ {i j : Nat} {x y : Oper}, l.toArray[i]? = some x → l.toArray[j]? = some y → i ≠ j → ∀ t, x.dst = some t → y.dst ≠ some t := fun hi hj hne t hd =>
    Region.flowPair_dst (hpair _ (hlt hi) _ (hlt hj)) hi hj hne hd
  have hpw : ∀ g : Nat → Bool, (selF g 0 l).Pairwise (fun o o' => ∀ t, o.dst = some t → o'.dst ≠ some t) := fun g =>
    selF_pair g l 0 fun i j x y hij hx hy => hdist (by rw [hget]; exact hx) (by rw [hget]; exact hy) (by omega)
  have hHm : ∀ o, o ∈ selF (fun i => !T i && !(i == b)) 0 l → ∃ j : Nat, l.toArray[j]? = some o ∧ T j = false ∧ j ≠ b := fun o ho => by
    obtain ⟨j, h1, h2⟩ := selF_mem _ l 0 o ho
    simp only [Nat.zero_add, Bool.and_eq_true, Bool.not_eq_true', beq_eq_false_iff_ne] at h2
    exact ⟨j, by rw [hget]; exact h1, h2.1, h2.2⟩
  have hTm : ∀ o, o ∈ selF T 0 l → ∃ j : Nat, l.toArray[j]? = some o ∧ T j = true := fun o ho => by
    obtain ⟨j, h1, h2⟩ := selF_mem _ l 0 o ho
    rw [Nat.zero_add] at h2
    exact ⟨j, by rw [hget]; exact h1, h2⟩
  have hA := quiet_text _ _ (hq ⟨W, Below.refl _ _⟩) (hpw _)
  have hAo : ∀ t, (∀ (j : Nat) (o : Oper), l.toArray[j]? = some o → T j = false → j ≠ b → o.dst ≠ some t) → A1.tmps[t]? = a0.tmps[t]? := fun t h => hA.1 t fun o ho => by
    obtain ⟨j, h1, h2, h3⟩ := hHm o ho
    exact h j o h1 h2 h3
  have hAs := hA.2.1
  have hAd := hA.2.2.1
  have hTT := fun (v : Value) (w : World) (h1 : Below W.heap.size W w) (h2 : D v w) => quiet_text _ _ (hqT v w h1 h2) (hpw T)
  have hTo : ∀ v w, Below W.heap.size W w → D v w → ∀ t, (∀ (j : Nat) (o : Oper), l.toArray[j]? = some o → T j = true → o.dst ≠ some t) → (A2 v).tmps[t]? = (A1.put ob.dst v).tmps[t]? := fun v w h1 h2 t h => (hTT v w h1 h2).1 t fun o ho => by
    obtain ⟨j, h3, h4⟩ := hTm o ho
    exact h j o h3 h4
  intro f
  induction f with
  | zero =>
    intro U listed a w vb hU _ hUm hF
    obtain rfl : U = [] := List.eq_nil_of_length_eq_zero hU
    have hall : ∀ i, i < l.toArray.size → listed.getD i false = true := fun i hi => by
      cases h : listed.getD i false with
      | true => rfl
      | false => have := (hUm i).2 ⟨hi, h⟩; simp at this
    have hbt := hall b hbn
    have hD := hF.box hbt
    refine ⟨?_, ?_⟩
    · rw [List.eq_nil_iff_forall_not_mem]
      intro j hj
      obtain ⟨h1, o, ho, _⟩ := mem_ready.1 hj
      have h2 := hall j (hlt ho)
      rw [getD_both h1] at h2; cases h2
    have ha : a = A2 vb := by
      have hTs := hTT vb w hF.later hD
      have htm : a.tmps = (A2 vb).tmps := by
        apply Array.ext_getElem?
        intro t
        by_cases hbd : ob.dst = some t
        · have e1 := hTo vb w hF.later hD t fun j o h1 h2 h3 => hdist hobA h1 (fun e => by subst e; rw [hTb] at h2; cases h2) t hbd h3
          rw [e1, put_get, if_pos hbd, hF.slotb t hbd, if_pos hbt, hAo t fun j o h1 _ h3 h4 => hdist hobA h1 (Ne.symm h3) t hbd h4]
        · by_cases h : ∃ (j : Nat) (o : Oper), l.toArray[j]? = some o ∧ o.dst = some t
          · obtain ⟨j, o, h2, h3⟩ := h
            have hjb : j ≠ b := fun e => by subst e; rw [hobA] at h2; cases h2; exact hbd h3
            rw [hF.slot j o t h2 h3 hjb, if_pos (hall j (hlt h2))]
            cases hTj : T j with
            | true => rfl
            | false =>
              have e1 := hTo vb w hF.later hD t fun j' o' h1' h2' h3' => hdist h2 h1' (fun e => by subst e; rw [hTj] at h2'; cases h2') t h3 h3'
              rw [e1, put_get, if_neg hbd]; rfl
          · have h' : ∀ (j : Nat) (o : Oper), l.toArray[j]? = some o → o.dst ≠ some t := fun j o h2 h3 => h ⟨j, o, h2, h3⟩
            rw [hF.other t h', hTo vb w hF.later hD t fun j o h1 _ => h' j o h1, put_get, if_neg hbd, hAo t fun j o h1 _ _ => h' j o h1]
      have hd : a.defers = (A2 vb).defers := by rw [hTs.2.2.1, put_defers, hAd, hF.defers]
      cases a; simp only at htm hd; cases hX : A2 vb; rw [hX] at htm hd; simp only at htm hd; rw [htm, hd]
    rw [ha]
    exact ht vb w hF.later hD
  | succ f ih =>
    intro U listed a w vb hU hnd hUm hF
    obtain ⟨i0, hi0, hleast⟩ := exists_leastM U (fun e => by rw [e] at hU; simp at hU)
    obtain ⟨hi0n, hi0u⟩ := (hUm i0).1 hi0
    have hin : ∀ i, i < l.toArray.size → i < listed.size := fun i hi => by rw [hF.lsize]; exact hi
    have hready : i0 ∈ Region.ready .any l.toArray listed := by
      refine mem_ready.2 ⟨getD_in (hin _ hi0n) hi0u, l.toArray[i0], Array.getElem?_eq_getElem hi0n, fun e he hbd => ?_⟩
      have h1 := hedge i0 hi0n
      rw [Array.getElem?_eq_getElem hi0n] at h1
      simp only [Array.all_eq_true_iff_forall_mem] at h1
      have h2 := h1 e he
      simp only [hbd, Bool.not_true, Bool.false_or, decide_eq_true_eq] at h2
      cases h : listed.getD e.on false with
      | true => rfl
      | false =>
        have := hleast e.on ((hUm e.on).2 ⟨by omega, h⟩)
        omega
    refine ⟨fun h => (by rw [h] at hready; cases hready), fun i hi => ?_⟩
    obtain ⟨hiu, o, ho, hdep⟩ := mem_ready.1 hi
    have hilt := hlt ho
    have hiU : i ∈ U := (hUm i).2 ⟨hilt, getD_both hiu⟩
    have hlist : ∀ j, (listed.setIfInBounds i true).getD j false = if j = i then true else listed.getD j false := fun j => by
      by_cases h : j = i
      · subst h; rw [if_pos rfl]; simp [hin j hilt]
      · rw [if_neg h, getD_set_ne false (Ne.symm h)]
    have hUm' : ∀ j, j ∈ U.erase i ↔ j < l.toArray.size ∧ (listed.setIfInBounds i true).getD j false = false := fun j => by
      rw [hnd.mem_erase_iff, hUm j, hlist j]
      by_cases h : j = i
      · simp [h]
      · simp [h]
    have hlen' : (U.erase i).length = f := by rw [List.length_erase_of_mem hiU]; omega
    have hnd' := hnd.erase i
    have hls' : (listed.setIfInBounds i true).size = l.toArray.size := by simp [hF.lsize]
    have hseen : ∀ t ∈ o.looksAt l.toArray, ∀ (j : Nat) (oj : Oper), l.toArray[j]? = some oj → oj.dst = some t → i ≠ j ∧ j < i ∧ listed.getD j false = true := by
      intro t ht j oj hoj hd
      have hne : i ≠ j := fun e => by
        subst e
        rw [ho] at hoj; cases hoj
        exact Region.flowPair_self (hpair i hilt i hilt) ho hd ht
      have h1 := Region.flowPair_looks (hpair i hilt j (hlt hoj)) ho hoj hne hd ht
      obtain ⟨o', ho', e, he, hbd, hon⟩ := Region.waitsFor_spec h1.2
      rw [ho] at ho'; cases ho'
      have := hdep e he hbd
      rw [hon] at this
      exact ⟨hne, h1.1, this⟩
    have hblin : T i = false → ∀ t ∈ o.looksAt l.toArray, ∀ (j : Nat) (oj : Oper), l.toArray[j]? = some oj → oj.dst = some t → T j = false ∧ (i = b ∨ j ≠ b) := fun hTi t ht j oj hoj hd => by
      have h1 := hblind i hilt
      rw [Bool.or_eq_true] at h1
      have h2 := List.all_eq_true.1 (h1.resolve_left (by rw [hTi]; simp)) j (List.mem_range.2 (hlt hoj))
      simp only [Bool.or_eq_true, Bool.not_eq_true', Bool.or_eq_false_iff, Bool.and_eq_true, beq_iff_eq, beq_eq_false_iff_ne] at h2
      rcases h2 with (h2 | h2) | h2
      · exact ⟨h2.1, .inr h2.2⟩
      · exact ⟨by rw [h2.2]; exact hTb, .inl h2.1⟩
      · exact absurd ht (Region.blindTo_spec h2 ho hoj hd)
    by_cases hib : i = b
    · subst hib
      rw [hobA] at ho; cases ho
      obtain ⟨fn, args, hrun, hcall⟩ := hb w hF.later
      have hal := (seen_alike (ops := l.toArray) (o := ob) (a := a) (a' := A1) (fun cs bb => hselect i ob cs bb hobA) fun t htl => by
        by_cases h : ∃ (j : Nat) (o : Oper), l.toArray[j]? = some o ∧ o.dst = some t
        · obtain ⟨j, oj, h2, h3⟩ := h
          obtain ⟨k1, k2, k3⟩ := hseen t htl j oj h2 h3
          rw [hF.slot j oj t h2 h3 (Ne.symm k1), if_pos k3, (hblin hTb t htl j oj h2 h3).1]; rfl
        · have h' : ∀ (j : Nat) (o : Oper), l.toArray[j]? = some o → o.dst ≠ some t := fun j o h2 h3 => h ⟨j, o, h2, h3⟩
          rw [hF.other t h', hAo t fun j o h1 _ _ => h' j o h1])
      unfold wpOp
      simp only [hobA]
      rw [if_pos (by rw [hal.2]; exact hgw)]
      refine .inl ?_
      unfold Oper.wp
      rw [hal.1, hrun, Oper.upon_enter]
      refine hcall.mono ?_
      rintro _ w' ⟨v', rfl, hbox, hbel⟩
      refine ih (U.erase i) _ _ _ v' hlen' hnd' hUm' ⟨hls', hF.later.trans (hbel.mono hF.later.size), by rw [put_size, hF.size], by rw [put_defers, hF.defers], ?_, ?_, ?_, ?_, fun _ => hbox⟩
      · intro j oj t hoj hd hjb
        have hne : ob.dst ≠ some t := fun h => hdist hobA hoj (Ne.symm hjb) t h hd
        rw [put_get, if_neg hne, hF.slot j oj t hoj hd hjb, hlist j, if_neg hjb]
        by_cases hTj : T j = true
        · have hjn : listed.getD j false = false := by
            cases h : listed.getD j false with
            | false => rfl
            | true => have := hF.tb j hTj h; rw [getD_both hiu] at this; cases this
          rw [if_neg (by rw [hjn]; simp), if_neg (by rw [hjn]; simp)]
        · rw [if_neg hTj, if_neg hTj]
      · intro t hd
        rw [put_get, if_pos hd, hlist i, if_pos rfl, if_pos rfl, hF.slotb t hd, if_neg (by rw [getD_both hiu]; simp)]
      · intro t h
        rw [put_get, if_neg (h i ob hobA), hF.other t h]
      · intro k _ _
        rw [hlist i, if_pos rfl]
    · have hol : l[i]? = some o := by rw [← hget]; exact ho
      cases hTi : T i with
      | false =>
        obtain ⟨pre, post, hsplit, hpre1, hpre2⟩ := selF_split (fun i => !T i && !(i == b)) l 0 i o hol (by rw [Nat.zero_add]; simp [hTi, hib])
        obtain ⟨_, _, _, htext⟩ := quiet_text _ _ (hq ⟨w, hF.later⟩) (hpw _)
        obtain ⟨ai, v, hy, t1, t2, t3⟩ := htext _ o _ hsplit
        have hal := seen_alike (ops := l.toArray) (o := o) (a := a) (a' := ai) (fun cs bb => hselect i o cs bb ho) fun t htl => by
          by_cases h : ∃ (j : Nat) (o : Oper), l.toArray[j]? = some o ∧ o.dst = some t
          · obtain ⟨j, oj, h2, h3⟩ := h
            obtain ⟨k1, k2, k3⟩ := hseen t htl j oj h2 h3
            obtain ⟨hTj, hjb⟩ := hblin hTi t htl j oj h2 h3
            have hjb := hjb.resolve_left hib
            rw [hF.slot j oj t h2 h3 hjb, if_pos k3, hTj]
            refine (t1 t ⟨oj, hpre2 j oj k2 (by rw [← hget]; exact h2) (by rw [Nat.zero_add]; simp [hTj, hjb]), h3⟩).symm
          · have h' : ∀ (j : Nat) (o : Oper), l.toArray[j]? = some o → o.dst ≠ some t := fun j o h2 h3 => h ⟨j, o, h2, h3⟩
            rw [hF.other t h']
            refine (t2 t fun p hp => ?_).symm
            obtain ⟨j, _, h2, _⟩ := hpre1 p hp
            exact h' j p (by rw [hget]; exact h2)
        have hy' := hy.of_same hal.1 hal.2
        have hqo := hy'.qOp (K := fun a' => a' = a.put o.dst v) ho rfl
        refine wpOp_of_qOp ⟨⟨w, Below.refl _ _⟩, rfl⟩ ?_ hqo
        rintro a' w' ⟨X, rfl⟩ rfl
        have hX := X.h
        refine ih (U.erase i) _ _ _ vb hlen' hnd' hUm' ⟨hls', hF.later.trans (hX.mono hF.later.size), by rw [put_size, hF.size], by rw [put_defers, hF.defers], ?_, ?_, ?_, ?_, ?_⟩
        · intro j oj t hoj hd hjb
          rw [put_get, hlist j]
          by_cases hji : j = i
          · subst hji
            rw [ho] at hoj; cases hoj
            rw [if_pos hd, if_pos rfl, if_pos rfl, hTi, hF.slot j o t ho hd hjb, if_neg (by rw [getD_both hiu]; simp)]
            exact (t3 t hd).symm
          · have hne : o.dst ≠ some t := fun h => hdist ho hoj (Ne.symm hji) t h hd
            rw [if_neg hne, if_neg hji, hF.slot j oj t hoj hd hjb]
        · intro t hd
          have hne : o.dst ≠ some t := fun h => hdist ho hobA hib t h hd
          rw [put_get, if_neg hne, hF.slotb t hd, hlist b, if_neg (Ne.symm hib)]
        · intro t h
          rw [put_get, if_neg (h i o ho), hF.other t h]
        · intro k hk1 hk2
          rw [hlist k] at hk2
          have hki : k ≠ i := fun e => by subst e; rw [hTi] at hk1; cases hk1
          rw [if_neg hki] at hk2
          rw [hlist b, if_neg (Ne.symm hib)]
          exact hF.tb k hk1 hk2
        · intro h
          rw [hlist b, if_neg (Ne.symm hib)] at h
          exact hBp vb w _ (hF.box h) hX
      | true =>
        have hbt : listed.getD b false = true := by
          have h1 := hTw i hilt
          rw [Bool.or_eq_true] at h1
          obtain ⟨k, _, h2⟩ := List.any_eq_true.1 (h1.resolve_left (by rw [hTi]; simp))
          simp only [Bool.and_eq_true, Bool.or_eq_true, beq_iff_eq] at h2
          obtain ⟨o', ho', e, he, hbd, hon⟩ := Region.waitsFor_spec h2.2
          rw [ho] at ho'; cases ho'
          have h3 := hdep e he hbd
          rw [hon] at h3
          rcases h2.1 with rfl | h4
          · exact h3
          · exact hF.tb k h4 h3
        have hD := hF.box hbt
        obtain ⟨pre, post, hsplit, hpre1, hpre2⟩ := selF_split T l 0 i o hol (by rw [Nat.zero_add]; exact hTi)
        obtain ⟨_, _, _, htext⟩ := hTT vb w hF.later hD
        obtain ⟨ai, v, hy, t1, t2, t3⟩ := htext _ o _ hsplit
        have hpo : ∀ t, (∀ (j : Nat) (oj : Oper), l.toArray[j]? = some oj → T j = true → oj.dst ≠ some t) → ai.tmps[t]? = (A1.put ob.dst vb).tmps[t]? := fun t h => t2 t fun p hp => by
          obtain ⟨j, _, h2, h3⟩ := hpre1 p hp
          rw [Nat.zero_add] at h3
          exact h j p (by rw [hget]; exact h2) h3
        have hal := seen_alike (ops := l.toArray) (o := o) (a := a) (a' := ai) (fun cs bb => hselect i o cs bb ho) fun t htl => by
          by_cases hbd : ob.dst = some t
          · rw [hpo t fun j oj h1 h2 h3 => hdist hobA h1 (fun e => by subst e; rw [hTb] at h2; cases h2) t hbd h3, put_get, if_pos hbd, hF.slotb t hbd, if_pos hbt, hAo t fun j o h1 _ h3 h4 => hdist hobA h1 (Ne.symm h3) t hbd h4]
          · by_cases h : ∃ (j : Nat) (o : Oper), l.toArray[j]? = some o ∧ o.dst = some t
            · obtain ⟨j, oj, h2, h3⟩ := h
              obtain ⟨k1, k2, k3⟩ := hseen t htl j oj h2 h3
              have hjb : j ≠ b := fun e => by subst e; rw [hobA] at h2; cases h2; exact hbd h3
              rw [hF.slot j oj t h2 h3 hjb, if_pos k3]
              cases hTj : T j with
              | true => exact (t1 t ⟨oj, hpre2 j oj k2 (by rw [← hget]; exact h2) (by rw [Nat.zero_add]; exact hTj), h3⟩).symm
              | false =>
                rw [hpo t fun j' o' h1' h2' h3' => hdist h2 h1' (fun e => by subst e; rw [hTj] at h2'; cases h2') t h3 h3', put_get, if_neg hbd]; rfl
            · have h' : ∀ (j : Nat) (o : Oper), l.toArray[j]? = some o → o.dst ≠ some t := fun j o h2 h3 => h ⟨j, o, h2, h3⟩
              rw [hF.other t h', hpo t fun j o h1 _ => h' j o h1, put_get, if_neg hbd, hAo t fun j o h1 _ _ => h' j o h1]
        have hy' := hy.of_same hal.1 hal.2
        have hqo := hy'.qOp (K := fun a' => a' = a.put o.dst v) ho rfl
        refine wpOp_of_qOp ⟨⟨w, Below.refl _ _⟩, rfl⟩ ?_ hqo
        rintro a' w' ⟨X, rfl⟩ rfl
        have hX := X.h
        refine ih (U.erase i) _ _ _ vb hlen' hnd' hUm' ⟨hls', hF.later.trans (hX.mono hF.later.size), by rw [put_size, hF.size], by rw [put_defers, hF.defers], ?_, ?_, ?_, ?_, ?_⟩
        · intro j oj t hoj hd hjb
          rw [put_get, hlist j]
          by_cases hji : j = i
          · subst hji
            rw [ho] at hoj; cases hoj
            rw [if_pos hd, if_pos rfl, if_pos rfl, hTi, hF.slot j o t ho hd hjb, if_neg (by rw [getD_both hiu]; simp)]
            have e1 := t3 t hd
            have hbd : ob.dst ≠ some t := fun h => hdist hobA ho (Ne.symm hjb) t h hd
            rw [put_get, if_neg hbd, hAo t fun j' o' h1 h2 h3 h4 => hdist ho h1 (fun e => by subst e; rw [hTi] at h2; cases h2) t hd h4] at e1
            exact e1.symm
          · have hne : o.dst ≠ some t := fun h => hdist ho hoj (Ne.symm hji) t h hd
            rw [if_neg hne, if_neg hji, hF.slot j oj t hoj hd hjb]
        · intro t hd
          have hne : o.dst ≠ some t := fun h => hdist ho hobA hib t h hd
          rw [put_get, if_neg hne, hF.slotb t hd, hlist b, if_neg (Ne.symm hib)]
        · intro t h
          rw [put_get, if_neg (h i o ho), hF.other t h]
        · intro k _ _
          rw [hlist b, if_neg (Ne.symm hib)]
          exact hbt
        · intro h
          rw [hlist b, if_neg (Ne.symm hib)] at h
          exact hBp vb w _ (hF.box h) hX
theorem wp_region_part2 {id : Nat} (b : Nat) (T : Nat → Bool) (ob : Oper) (D : Value → World → Prop) (hm : P.follows .mixedOrders = true) (hB : Region.partB2 l.toArray b T = true) (hob : l[b]? = some ob)
    (hBp : ∀ v w w', D v w → Below w.heap.size w w' → D v w')
    (hh : ∃ A1, (∀ Y : Later W, wpQuiet P l.toArray (fun w' => ∃ X : Later2 Y, w' = X.w) (fun a' => a' = A1) (selF (fun i => !T i && !(i == b)) 0 l) a0) ∧ Region.wanted ob (yielded l.toArray A1.tmps) = true ∧
      (∀ w, Below W.heap.size W w → ∃ fn args, (execOp A1.eval ob).run P w = .ok (.enter fn args) w ∧ Calls P fn args w fun e w' => ∃ v, e = .returned v ∧ D v w' ∧ Below w.heap.size w w') ∧
        ∃ A2 : Value → Act, (∀ v w, Below W.heap.size W w → D v w → wpQuiet P l.toArray (fun w' => ∃ X : Later w, w' = X.w) (fun a' => a' = A2 v) (selF T 0 l) (A1.put ob.dst v)) ∧
          ∀ v w, Below W.heap.size W w → D v w → Q .normal (A2 v) w) :
    (Code.region id l.toArray true).wp P Q a0 W := by
  obtain ⟨A1, hq, hgw, hb, A2, hqT, ht⟩ := hh
  refine wp_region_any hm ?_
  exact part_run2 (W := W) (a0 := a0) (A1 := A1) (A2 := A2) (D := D) (Q := Q) hB hob hgw hq hb hBp hqT ht l.toArray.size (List.range l.toArray.size) (Array.replicate l.toArray.size false) a0 { W with drawn := W.drawn + 1 } undef (by simp) List.nodup_range (fun i => by rw [List.mem_range]; exact ⟨fun h => ⟨h, getD_replicate_false _ _⟩, fun h => h.1⟩)
    ⟨by simp, ⟨rfl, rfl, rfl, Nat.le_refl _, fun _ _ => rfl⟩, rfl, rfl, fun j o t _ _ _ => by rw [getD_replicate_false]; rfl, fun t _ => by rw [getD_replicate_false]; rfl, fun _ _ => rfl, fun k _ h => (by rw [getD_replicate_false] at h; cases h), fun h => by rw [getD_replicate_false] at h; cases h⟩
theorem wp_region_partG2 {id : Nat} (b : Nat) (T : Nat → Bool) (ob : Oper) (D : Value → World → Prop) (G : Act → Value → Act) (hm : P.follows .mixedOrders = true) (hB : Region.partB2 l.toArray b T = true) (hob : l[b]? = some ob)
    (hBp : ∀ v w w', D v w → Below w.heap.size w w' → D v w')
    (hh : ∃ A1, (∀ Y : Later W, wpQuiet P l.toArray (fun w' => ∃ X : Later2 Y, w' = X.w) (fun a' => a' = A1) (selF (fun i => !T i && !(i == b)) 0 l) a0) ∧ Region.wanted ob (yielded l.toArray A1.tmps) = true ∧
      (∀ w, Below W.heap.size W w → ∃ fn args, (execOp A1.eval ob).run P w = .ok (.enter fn args) w ∧ Calls P fn args w fun e w' => ∃ v, e = .returned v ∧ D v w' ∧ Below w.heap.size w w') ∧
        (∀ v w, Below W.heap.size W w → D v w → wpQuiet P l.toArray (fun w' => ∃ X : Later w, w' = X.w) (fun a' => a' = G A1 v) (selF T 0 l) (A1.put ob.dst v)) ∧
          ∀ v w, Below W.heap.size W w → D v w → Q .normal (G A1 v) w) :
    (Code.region id l.toArray true).wp P Q a0 W := by
  obtain ⟨A1, hq, hgw, hb, hqT, ht⟩ := hh
  exact wp_region_part2 b T ob D hm hB hob hBp ⟨A1, hq, hgw, hb, G A1, hqT, ht⟩
end
end Go
/- Walks: IsCut of the reference. -/
namespace Go.Proofs.YtahpdkkpnkhnhaaGreatDoor
open Go Go.Proofs Go.RowKit Go.Shelf
def geV : Value → Value
  | .int _ z => .bool (decide (0 ≤ z))
  | v => v
set_option maxRecDepth 100000 in
set_option maxHeartbeats 2000000 in
theorem isCut66 (w : World) (v1 v2 s t u : Value) (p : Pl) (src snk cut : List Int) (hv : PlR w w.heap.size v1 v2 p) (hs : Sl encI 1 w w.heap.size s src) (ht : Sl encI 1 w w.heap.size t snk) (hu : Sl encI 1 w w.heap.size u cut) (hok : OkP p) (he : OkE p src snk) (hin : ∀ x, x ∈ src ∨ x ∈ snk → inN p.ms.length x = true) :
    Calls Tryz.prog 66 #[.agg #[v1, v2], s, t, u] w (Ret (.bool (!cutB p src snk cut)) w) := by
  have C21 := Lib.hid (fun (w1 : World) (hb : Below w.heap.size w w1) (a b : Int) h1 h2 => shortest21 w1 v1 v2 u p cut a b (hv.later hb) (hu.later hb) hok h1 h2)
  have HIN := Lib.hid hin
  have HNO := Lib.hid (fun (h : ∀ a ∈ src, ∀ b ∈ snk, ∃ v, ShR p cut a b v ∧ v < 0) => show cutB p src snk cut = false from by
    cases hc : cutB p src snk cut with
    | false => rfl
    | true =>
      obtain ⟨a, ha, b, hb, hv⟩ := cut_some hok he hc
      obtain ⟨v, h1, h2⟩ := h a ha b hb
      have := hv v h1
      omega)
  have HYES := Lib.hid (fun (a b v : Int) (ha : a ∈ src) (hb : b ∈ snk) (h : ShR p cut a b v) (h0 : 0 ≤ v) => cut_of hok he ha hb h h0)
  obtain ⟨R, hR⟩ : ∃ R, cutB p src snk cut = R := ⟨_, rfl⟩
  rw [hR] at HNO HYES ⊢
  clear hR
  obtain ⟨a1, n1, a2, n2, rfl, rfl⟩ := hv.agg
  obtain ⟨a, c, rfl, hlen, hA⟩ := hs
  obtain ⟨d, f, rfl, hlen', hA'⟩ := ht
  have HA := Lib.hid hA
  have HA' := Lib.hid hA'
  clear hA hA' hv hu hok he hin
  obtain ⟨hl, hlc⟩ := hlen
  obtain ⟨hl', hlc'⟩ := hlen'
  obtain ⟨n, hn⟩ : ∃ n, p.ms.length = n := ⟨_, rfl⟩
  obtain ⟨m, hm⟩ : ∃ m, p.arcs.length = m := ⟨_, rfl⟩
  obtain ⟨ln, hll⟩ : ∃ m, src.length = m := ⟨_, rfl⟩
  obtain ⟨lm, hlm⟩ : ∃ m, snk.length = m := ⟨_, rfl⟩
  rw [hn] at C21 HIN ⊢
  rw [hm] at C21 ⊢
  rw [hll] at hl hlc ⊢
  rw [hlm] at hl' hlc' ⊢
  have HLN := Lib.hid hll
  have HLM := Lib.hid hlm
  clear hn hm hll hlm
  have HB := Lib.hid ((Below.refl w.heap.size w).alloc (Nat.le_refl _) (.cells #[.slice a1 n n1, .slice a2 m n2] 25))
  have HX := Lib.hid (Box.new w #[.slice a1 n n1, .slice a2 m n2] 25)
  go_enter Tryz.func66, Tryz.ntmps66
  go_wp2_with fail
  go_loopw [9] (fun i wr => ∃ k : Nat, k ≤ ln ∧ i = .int .i64 k ∧ Below w.heap.size w wr ∧ Box wr w.heap.size 25 [.slice a1 n n1, .slice a2 m n2] ∧ ∀ i (h : i < src.length), i < k → ∀ b ∈ snk, ∃ v, ShR p cut src[i] b v ∧ v < 0) (fun i _ => ln - (intOf i).toNat)
  case atStart => exact ⟨0, by omega, rfl, HB.out, HX.out, fun i _ h => absurd h (Nat.not_lt_zero _)⟩
  case round =>
    clear HB HX
    obtain ⟨k, hk, rfl, hbe, hx, hrel⟩ := hrel
    have HB1 := Lib.hid hbe
    have HX1 := Lib.hid hx
    have HR := Lib.hid hrel
    clear hbe hx hrel
    by_cases hlt : k < ln
    rotate_left
    · obtain rfl : ln = k := by omega
      have HV := Lib.hid (HNO.out fun a ha b hb => by
        obtain ⟨i, hi, rfl⟩ := List.mem_iff_getElem.1 ha
        exact HR.out i hi (by rw [← HLN.out]; exact hi) b hb)
      go_wp2_with fail
      go_ret
      exact ⟨by rw [HV.out]; rfl, HB1.out⟩
    go_wp2_with fail
    generalize wr = U at *
    go_loopw [10] (fun i wr => ∃ q : Nat, q ≤ lm ∧ i = .int .i64 q ∧ Below w.heap.size w wr ∧ Box wr w.heap.size 25 [.slice a1 n n1, .slice a2 m n2] ∧ ∀ i (h : i < snk.length), i < q → ∀ (hk : k < src.length), ∃ v, ShR p cut src[k] snk[i] v ∧ v < 0) (fun i _ => lm - (intOf i).toNat)
    case atStart => exact ⟨0, by omega, rfl, HB1.out, HX1.out, fun i _ h => absurd h (Nat.not_lt_zero _)⟩
    case round =>
      obtain ⟨q, hq, rfl, hbe, hx, hrel⟩ := hrel
      have HB2 := Lib.hid hbe
      have HX2 := Lib.hid hx
      have HR2 := Lib.hid hrel
      clear hbe hx hrel
      have hkl : k < src.length := by rw [HLN.out]; exact hlt
      by_cases hlq : q < lm
      rotate_left
      · obtain rfl : lm = q := by omega
        go_wp2_with fail
        go_roundw
        case rel =>
          refine ⟨k + 1, by omega, by go_num, HB2.out, HX2.out, fun i hi hik b hb => ?_⟩
          by_cases h : i = k
          · subst h
            obtain ⟨j, hj, rfl⟩ := List.mem_iff_getElem.1 hb
            exact HR2.out j hj (by rw [← HLM.out]; exact hj) hi
          · exact HR.out i hi (by omega) b hb
        case measure => simp [intOf]; omega
      have hql : q < snk.length := by rw [HLM.out]; exact hlq
      obtain ⟨b1, o1, rfl, hbb1, hc1⟩ := HA.out (by omega)
      obtain ⟨b2, o2, rfl, hbb2, hc2⟩ := HA'.out (by omega)
      have c0 := ((hc1 k hkl).below HB2.out hbb1).c1
      have e0 := ((hc2 q hql).below HB2.out hbb2).c1
      rw [Nat.mul_one] at c0 e0
      have hb1z : b1 < wr.heap.size := Nat.lt_of_lt_of_le hbb1 HB2.out.size
      have hb2z : b2 < wr.heap.size := Nat.lt_of_lt_of_le hbb2 HB2.out.size
      obtain ⟨x0, x1, xf, xz⟩ := HX2.out.v2
      have HMA := Lib.hid (List.getElem_mem hkl)
      have HMB := Lib.hid (List.getElem_mem hql)
      have HN2 := Lib.hid (fun (h : ∃ v, ShR p cut src[k] snk[q] v ∧ v < 0) i (hi : i < snk.length) (hiq : i < q + 1) (hk : k < src.length) => show ∃ v, ShR p cut src[k] snk[i] v ∧ v < 0 from by
        by_cases h' : i = q
        · subst h'; exact h
        · exact HR2.out i hi (by omega) hk)
      have K21 := Lib.hid (fun (w1 : World) (hb : Below w.heap.size w w1) => C21.out w1 hb src[k] snk[q] (HIN.out _ (.inl HMA.out)) (HIN.out _ (.inr HMB.out)))
      have HY2 := Lib.hid (fun v => HYES.out src[k] snk[q] v HMA.out HMB.out)
      generalize hxk : src[k] = xk at *
      generalize hyk : snk[q] = yk at *
      clear hc1 hc2
      go_wp2_with fail
      refine wp_region_partG2 10 (fun i => i == 11) _ (fun v W' => ∃ z, v = .int .i64 z ∧ ShR p cut xk yk z) (fun A v => (A.put (some 33) v).put (some 34) (geV v)) (by kernel_rfl) (by kernel_rfl) rfl (fun v u u' h hb => h) ?_
      apply Exists.intro
      refine ⟨fun Y => ?_, ?_, fun wa hwa => ?_, fun v wa hwa hD => ?_, fun v w6 hb hD => ?_⟩
      · simp only [selF, Nat.reduceBEq, Bool.not_true, Bool.not_false, Bool.and_true, Bool.and_false, Bool.false_eq_true, if_true, if_false, Nat.reduceAdd, Nat.zero_add]
        repeat go_big_quiet_step (fail)
        exact wpQuiet_nil rfl
      · rfl
      · refine ⟨21, _, ?_, (K21.out wa (HB2.out.trans (hwa.mono HB2.out.size))).mono ?_⟩
        · go_simp
          first | done | rfl
        · rintro e w6 ⟨z, rfl, hz, hb6⟩
          exact ⟨_, rfl, ⟨z, rfl, hz⟩, hb6⟩
      · obtain ⟨z, rfl, _⟩ := hD
        simp only [selF, Nat.reduceBEq, Bool.not_true, Bool.not_false, Bool.and_true, Bool.and_false, Bool.false_eq_true, if_true, if_false, Nat.reduceAdd, Nat.zero_add, Act.put, List.setIfInBounds_toArray, List.set_cons_succ, List.set_cons_zero]
        repeat go_big_quiet_step (fail)
        exact wpQuiet_nil rfl
      obtain ⟨z, rfl, hz⟩ := hD
      have HZ := Lib.hid hz
      have HB3 := Lib.hid (HB2.out.trans (hb.mono HB2.out.size))
      have HX3 := Lib.hid (HX2.out.later hb)
      clear hz hb c0 e0 hb1z hb2z x0 x1 xf xz
      simp only [Act.put, List.setIfInBounds_toArray, List.set_cons_succ, List.set_cons_zero, geV]
      obtain ⟨b0, hb0⟩ : ∃ b, decide (0 ≤ z) = b := ⟨_, rfl⟩
      rw [hb0]
      cases b0 with
      | true =>
        have HV := Lib.hid (HY2.out z HZ.out (of_decide_eq_true hb0))
        clear hb0 hxk hyk
        go_wp2_with fail
        go_ret
        exact ⟨by rw [HV.out]; rfl, HB3.out⟩
      | false =>
        have HV := Lib.hid (HN2.out ⟨z, HZ.out, by have := of_decide_eq_false hb0; omega⟩)
        clear hb0
        subst hxk hyk
        go_wp2_with fail
        go_roundw
        case rel => exact ⟨q + 1, by omega, by go_num, HB3.out, HX3.out, HV.out⟩
        case measure => simp [intOf]; omega
end Go.Proofs.YtahpdkkpnkhnhaaGreatDoor
/- Plain: lists of paths; what CheckDisjoint says. -/
namespace Go.Proofs.YtahpdkkpnkhnhaaGreatDoor
open Go Go.Proofs Go.RowKit Go.Shelf
structure Pt where
  a : Option Addr
  c : Nat
  l : List Int
def Pt.enc (t : Pt) : List Value := [.slice t.a t.l.length t.c]
theorem Pt.enc_len (t : Pt) : t.enc.length = 1 := rfl
structure PtR (w : World) (B : Nat) (v : Value) (L : List Pt) : Prop where
  sl : Sl Pt.enc 1 w B v L
  rd : ∀ t ∈ L, Sl encI 1 w B (.slice t.a t.l.length t.c) t.l
theorem PtR.later {w w' : World} {v : Value} {L : List Pt} (h : PtR w w.heap.size v L) (hb : Below w.heap.size w w') : PtR w' w'.heap.size v L :=
  ⟨h.sl.later hb, fun t ht => (h.rd t ht).later hb⟩
def disL (p : Pl) (src snk : List Int) : List Pt → Int
  | [] => 0
  | t :: r => if pathE p t.l ≠ 0 then pathE p t.l else if (!src.contains (t.l.getD 0 0) || !snk.contains (t.l.getD (t.l.length - 1) 0)) = true then 1 else disL p src snk r
def disE (p : Pl) (src snk : List Int) (L : List Pt) : Int :=
  if disL p src snk L ≠ 0 then disL p src snk L else if dupB (L.flatMap Pt.l) then 9 else 0
theorem disL_drop (p : Pl) (src snk : List Int) (L : List Pt) (k : Nat) (h : k < L.length) : disL p src snk (L.drop k) = if pathE p L[k].l ≠ 0 then pathE p L[k].l else if (!src.contains (L[k].l.getD 0 0) || !snk.contains (L[k].l.getD (L[k].l.length - 1) 0)) = true then 1 else disL p src snk (L.drop (k + 1)) := by
  rw [List.drop_eq_getElem_cons h]; rfl
end Go.Proofs.YtahpdkkpnkhnhaaGreatDoor
