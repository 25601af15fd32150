/- Lemmas on the way to the law PathNeverMeets (part 8): Rh -/
import Derived.Test.YtahpdkkpnkhnhaaGreatDoorPathNeverMeetsP07
set_option linter.unusedVariables false
set_option linter.unusedSimpArgs false

/- Walks: a drawn region with one guarded call that runs (the rule of text Rg, the guard decided). -/
namespace Go
open Go.RowKit
section
def Region.partB2 (ops : Array Oper) (b : Nat) (T : Nat → Bool) : Bool :=
  Region.noSelect ops && decide (b < ops.size) && !T b &&
  ((List.range ops.size).all fun i => match ops[i]? with | some o => o.after.all fun e => !Region.binds .any e || decide (e.on < i) | none => true) &&
  ((List.range ops.size).all fun i => (List.range ops.size).all fun j => Region.flowPair ops i j) &&
  ((List.range ops.size).all fun i => T i || ((List.range ops.size).all fun j => !(T j || j == b) || (i == b && j == b) || Region.blindTo ops i j)) &&
  ((List.range ops.size).all fun i => !T i || (List.range ops.size).any fun k => (k == b || T k) && Region.waitsFor .any ops i k)
variable {P : Program} {l : List Oper} {b : Nat} {T : Nat → Bool} {ob : Oper} {W : World} {a0 A1 : Act} {A2 : Value → Act} {D : Value → World → Prop} {Q : Exit → Act → World → Prop}
theorem part_run2 (hB : Region.partB2 l.toArray b T = true) (hob : l[b]? = some ob) (hgw : Region.wanted ob (yielded l.toArray A1.tmps) = true)
    (hq : ∀ Y : Later W, wpQuiet P l.toArray (fun w' => ∃ X : Later2 Y, w' = X.w) (fun a' => a' = A1) (selF (fun i => !T i && !(i == b)) 0 l) a0)
    (hb : ∀ w, Below W.heap.size W w → ∃ fn args, (execOp A1.eval ob).run P w = .ok (.enter fn args) w ∧ Calls P fn args w fun e w' => ∃ v, e = .returned v ∧ D v w' ∧ Below w.heap.size w w')
    (hBp : ∀ v w w', D v w → Below w.heap.size w w' → D v w')
    (hqT : ∀ v w, Below W.heap.size W w → D v w → wpQuiet P l.toArray (fun w' => ∃ X : Later w, w' = X.w) (fun a' => a' = A2 v) (selF T 0 l) (A1.put ob.dst v))
    (ht : ∀ v w, Below W.heap.size W w → D v w → Q .normal (A2 v) w) :
    ∀ (f : Nat) (U : List Nat) (listed : Array Bool) (a : Act) (w : World) (vb : Value), U.length = f → U.Nodup → (∀ i, i ∈ U ↔ i < l.toArray.size ∧ listed.getD i false = false) →
      PartFlow l.toArray b T ob W a0 A1 A2 D listed a w vb → wpAny P .any l.toArray Q f listed a w := by
  simp only [Region.partB2, Bool.and_eq_true, decide_eq_true_eq, List.all_eq_true, List.mem_range, Bool.not_eq_true'] at hB
  obtain ⟨⟨⟨⟨⟨⟨hsel, hbn⟩, hTb⟩, hedge⟩, hpair⟩, hblind⟩, hTw⟩ := hB
  have hget : ∀ i : Nat, l.toArray[i]? = l[i]? := fun i => by simp
  have hselect := Region.noSelect_spec hsel
  have hlt : ∀ {i : Nat} {o : Oper}, l.toArray[i]? = some o → i < l.toArray.size := fun h => (Array.getElem?_eq_some_iff.1 h).1
  have hobA : l.toArray[b]? = some ob := by rw [hget]; exact hob
  have hdist : ∀ {i j : Nat} {x y : Oper}, l.toArray[i]? = some x → l.toArray[j]? = some y → i ≠ j → ∀ t, x.dst = some t → y.dst ≠ some t := fun hi hj hne t hd =>
    Region.flowPair_dst (hpair _ (hlt hi) _ (hlt hj)) hi hj hne hd
  have hpw : ∀ g : Nat → Bool, (selF g 0 l).Pairwise (fun o o' => ∀ t, o.dst = some t → o'.dst ≠ some t) := fun g =>
    selF_pair g l 0 fun i j x y hij hx hy => hdist (by rw [hget]; exact hx) (by rw [hget]; exact hy) (by omega)
  have hHm : ∀ o, o ∈ selF (fun i => !T i && !(i == b)) 0 l → ∃ j : Nat, l.toArray[j]? = some o ∧ T j = false ∧ j ≠ b := fun o ho => by
    obtain ⟨j, h1, h2⟩ := selF_mem _ l 0 o ho
    simp only [Nat.zero_add, Bool.and_eq_true, Bool.not_eq_true', beq_eq_false_iff_ne] at h2
    exact ⟨j, by rw [hget]; exact h1, h2.1, h2.2⟩
  have hTm : ∀ o, o ∈ selF T 0 l → ∃ j : Nat, l.toArray[j]? = some o ∧ T j = true := fun o ho => by
    obtain ⟨j, h1, h2⟩ := selF_mem _ l 0 o ho
    rw [Nat.zero_add] at h2
    exact ⟨j, by rw [hget]; exact h1, h2⟩
  have hA := quiet_text _ _ (hq ⟨W, Below.refl _ _⟩) (hpw _)
  have hAo : ∀ t, (∀ (j : Nat) (o : Oper), l.toArray[j]? = some o → T j = false → j ≠ b → o.dst ≠ some t) → A1.tmps[t]? = a0.tmps[t]? := fun t h => hA.1 t fun o ho => by
    obtain ⟨j, h1, h2, h3⟩ := hHm o ho
    exact h j o h1 h2 h3
  have hAs := hA.2.1
  have hAd := hA.2.2.1
  have hTT := fun (v : Value) (w : World) (h1 : Below W.heap.size W w) (h2 : D v w) => quiet_text _ _ (hqT v w h1 h2) (hpw T)
  have hTo : ∀ v w, Below W.heap.size W w → D v w → ∀ t, (∀ (j : Nat) (o : Oper), l.toArray[j]? = some o → T j = true → o.dst ≠ some t) → (A2 v).tmps[t]? = (A1.put ob.dst v).tmps[t]? := fun v w h1 h2 t h => (hTT v w h1 h2).1 t fun o ho => by
    obtain ⟨j, h3, h4⟩ := hTm o ho
    exact h j o h3 h4
  intro f
  induction f with
  | zero =>
    intro U listed a w vb hU _ hUm hF
    obtain rfl : U = [] := List.eq_nil_of_length_eq_zero hU
    have hall : ∀ i, i < l.toArray.size → listed.getD i false = true := fun i hi => by
      cases h : listed.getD i false with
      | true => rfl
      | false => have := (hUm i).2 ⟨hi, h⟩; simp at this
    have hbt := hall b hbn
    have hD := hF.box hbt
    refine ⟨?_, ?_⟩
    · rw [List.eq_nil_iff_forall_not_mem]
      intro j hj
      obtain ⟨h1, o, ho, _⟩ := mem_ready.1 hj
      have h2 := hall j (hlt ho)
      rw [getD_both h1] at h2; cases h2
    have ha : a = A2 vb := by
      have hTs := hTT vb w hF.later hD
      have htm : a.tmps = (A2 vb).tmps := by
        apply Array.ext_getElem?
        intro t
        by_cases hbd : ob.dst = some t
        · have e1 := hTo vb w hF.later hD t fun j o h1 h2 h3 => hdist hobA h1 (fun e => by subst e; rw [hTb] at h2; cases h2) t hbd h3
          rw [e1, put_get, if_pos hbd, hF.slotb t hbd, if_pos hbt, hAo t fun j o h1 _ h3 h4 => hdist hobA h1 (Ne.symm h3) t hbd h4]
        · by_cases h : ∃ (j : Nat) (o : Oper), l.toArray[j]? = some o ∧ o.dst = some t
          · obtain ⟨j, o, h2, h3⟩ := h
            have hjb : j ≠ b := fun e => by subst e; rw [hobA] at h2; cases h2; exact hbd h3
            rw [hF.slot j o t h2 h3 hjb, if_pos (hall j (hlt h2))]
            cases hTj : T j with
            | true => rfl
            | false =>
              have e1 := hTo vb w hF.later hD t fun j' o' h1' h2' h3' => hdist h2 h1' (fun e => by subst e; rw [hTj] at h2'; cases h2') t h3 h3'
              rw [e1, put_get, if_neg hbd]; rfl
          · have h' : ∀ (j : Nat) (o : Oper), l.toArray[j]? = some o → o.dst ≠ some t := fun j o h2 h3 => h ⟨j, o, h2, h3⟩
            rw [hF.other t h', hTo vb w hF.later hD t fun j o h1 _ => h' j o h1, put_get, if_neg hbd, hAo t fun j o h1 _ _ => h' j o h1]
      have hd : a.defers = (A2 vb).defers := by rw [hTs.2.2.1, put_defers, hAd, hF.defers]
      cases a; simp only at htm hd; cases hX : A2 vb; rw [hX] at htm hd; simp only at htm hd; rw [htm, hd]
    rw [ha]
    exact ht vb w hF.later hD
  | succ f ih =>
    intro U listed a w vb hU hnd hUm hF
    obtain ⟨i0, hi0, hleast⟩ := exists_leastM U (fun e => by rw [e] at hU; simp at hU)
    obtain ⟨hi0n, hi0u⟩ := (hUm i0).1 hi0
    have hin : ∀ i, i < l.toArray.size → i < listed.size := fun i hi => by rw [hF.lsize]; exact hi
    have hready : i0 ∈ Region.ready .any l.toArray listed := by
      refine mem_ready.2 ⟨getD_in (hin _ hi0n) hi0u, l.toArray[i0], Array.getElem?_eq_getElem hi0n, fun e he hbd => ?_⟩
      have h1 := hedge i0 hi0n
      rw [Array.getElem?_eq_getElem hi0n] at h1
      simp only [Array.all_eq_true_iff_forall_mem] at h1
      have h2 := h1 e he
      simp only [hbd, Bool.not_true, Bool.false_or, decide_eq_true_eq] at h2
      cases h : listed.getD e.on false with
      | true => rfl
      | false =>
        have := hleast e.on ((hUm e.on).2 ⟨by omega, h⟩)
        omega
    refine ⟨fun h => (by rw [h] at hready; cases hready), fun i hi => ?_⟩
    obtain ⟨hiu, o, ho, hdep⟩ := mem_ready.1 hi
    have hilt := hlt ho
    have hiU : i ∈ U := (hUm i).2 ⟨hilt, getD_both hiu⟩
    have hlist : ∀ j, (listed.setIfInBounds i true).getD j false = if j = i then true else listed.getD j false := fun j => by
      by_cases h : j = i
      · subst h; rw [if_pos rfl]; simp [hin j hilt]
      · rw [if_neg h, getD_set_ne false (Ne.symm h)]
    have hUm' : ∀ j, j ∈ U.erase i ↔ j < l.toArray.size ∧ (listed.setIfInBounds i true).getD j false = false := fun j => by
      rw [hnd.mem_erase_iff, hUm j, hlist j]
      by_cases h : j = i
      · simp [h]
      · simp [h]
    have hlen' : (U.erase i).length = f := by rw [List.length_erase_of_mem hiU]; omega
    have hnd' := hnd.erase i
    have hls' : (listed.setIfInBounds i true).size = l.toArray.size := by simp [hF.lsize]
    -- what an operation looks at has come up
    have hseen : ∀ t ∈ o.looksAt l.toArray, ∀ (j : Nat) (oj : Oper), l.toArray[j]? = some oj → oj.dst = some t → i ≠ j ∧ j < i ∧ listed.getD j false = true := by
      intro t ht j oj hoj hd
      have hne : i ≠ j := fun e => by
        subst e
        rw [ho] at hoj; cases hoj
        exact Region.flowPair_self (hpair i hilt i hilt) ho hd ht
      have h1 := Region.flowPair_looks (hpair i hilt j (hlt hoj)) ho hoj hne hd ht
      obtain ⟨o', ho', e, he, hbd, hon⟩ := Region.waitsFor_spec h1.2
      rw [ho] at ho'; cases ho'
      have := hdep e he hbd
      rw [hon] at this
      exact ⟨hne, h1.1, this⟩
    have hblin : T i = false → ∀ t ∈ o.looksAt l.toArray, ∀ (j : Nat) (oj : Oper), l.toArray[j]? = some oj → oj.dst = some t → T j = false ∧ (i = b ∨ j ≠ b) := fun hTi t ht j oj hoj hd => by
      have h1 := hblind i hilt
      rw [Bool.or_eq_true] at h1
      have h2 := List.all_eq_true.1 (h1.resolve_left (by rw [hTi]; simp)) j (List.mem_range.2 (hlt hoj))
      simp only [Bool.or_eq_true, Bool.not_eq_true', Bool.or_eq_false_iff, Bool.and_eq_true, beq_iff_eq, beq_eq_false_iff_ne] at h2
      rcases h2 with (h2 | h2) | h2
      · exact ⟨h2.1, .inr h2.2⟩
      · exact ⟨by rw [h2.2]; exact hTb, .inl h2.1⟩
      · exact absurd ht (Region.blindTo_spec h2 ho hoj hd)
    by_cases hib : i = b
    · subst hib
      rw [hobA] at ho; cases ho
      obtain ⟨fn, args, hrun, hcall⟩ := hb w hF.later
      have hal := (seen_alike (ops := l.toArray) (o := ob) (a := a) (a' := A1) (fun cs bb => hselect i ob cs bb hobA) fun t htl => by
        by_cases h : ∃ (j : Nat) (o : Oper), l.toArray[j]? = some o ∧ o.dst = some t
        · obtain ⟨j, oj, h2, h3⟩ := h
          obtain ⟨k1, k2, k3⟩ := hseen t htl j oj h2 h3
          rw [hF.slot j oj t h2 h3 (Ne.symm k1), if_pos k3, (hblin hTb t htl j oj h2 h3).1]; rfl
        · have h' : ∀ (j : Nat) (o : Oper), l.toArray[j]? = some o → o.dst ≠ some t := fun j o h2 h3 => h ⟨j, o, h2, h3⟩
          rw [hF.other t h', hAo t fun j o h1 _ _ => h' j o h1])
      unfold wpOp
      simp only [hobA]
      rw [if_pos (by rw [hal.2]; exact hgw)]
      refine .inl ?_
      unfold Oper.wp
      rw [hal.1, hrun, Oper.upon_enter]
      refine hcall.mono ?_
      rintro _ w' ⟨v', rfl, hbox, hbel⟩
      refine ih (U.erase i) _ _ _ v' hlen' hnd' hUm' ⟨hls', hF.later.trans (hbel.mono hF.later.size), by rw [put_size, hF.size], by rw [put_defers, hF.defers], ?_, ?_, ?_, ?_, fun _ => hbox⟩
      · intro j oj t hoj hd hjb
        have hne : ob.dst ≠ some t := fun h => hdist hobA hoj (Ne.symm hjb) t h hd
        rw [put_get, if_neg hne, hF.slot j oj t hoj hd hjb, hlist j, if_neg hjb]
        by_cases hTj : T j = true
        · have hjn : listed.getD j false = false := by
            cases h : listed.getD j false with
            | false => rfl
            | true => have := hF.tb j hTj h; rw [getD_both hiu] at this; cases this
          rw [if_neg (by rw [hjn]; simp), if_neg (by rw [hjn]; simp)]
        · rw [if_neg hTj, if_neg hTj]
      · intro t hd
        rw [put_get, if_pos hd, hlist i, if_pos rfl, if_pos rfl, hF.slotb t hd, if_neg (by rw [getD_both hiu]; simp)]
      · intro t h
        rw [put_get, if_neg (h i ob hobA), hF.other t h]
      · intro k _ _
        rw [hlist i, if_pos rfl]
    · have hol : l[i]? = some o := by rw [← hget]; exact ho
      cases hTi : T i with
      | false =>
        obtain ⟨pre, post, hsplit, hpre1, hpre2⟩ := selF_split (fun i => !T i && !(i == b)) l 0 i o hol (by rw [Nat.zero_add]; simp [hTi, hib])
        obtain ⟨_, _, _, htext⟩ := quiet_text _ _ (hq ⟨w, hF.later⟩) (hpw _)
        obtain ⟨ai, v, hy, t1, t2, t3⟩ := htext _ o _ hsplit
        have hal := seen_alike (ops := l.toArray) (o := o) (a := a) (a' := ai) (fun cs bb => hselect i o cs bb ho) fun t htl => by
          by_cases h : ∃ (j : Nat) (o : Oper), l.toArray[j]? = some o ∧ o.dst = some t
          · obtain ⟨j, oj, h2, h3⟩ := h
            obtain ⟨k1, k2, k3⟩ := hseen t htl j oj h2 h3
            obtain ⟨hTj, hjb⟩ := hblin hTi t htl j oj h2 h3
            have hjb := hjb.resolve_left hib
            rw [hF.slot j oj t h2 h3 hjb, if_pos k3, hTj]
            refine (t1 t ⟨oj, hpre2 j oj k2 (by rw [← hget]; exact h2) (by rw [Nat.zero_add]; simp [hTj, hjb]), h3⟩).symm
          · have h' : ∀ (j : Nat) (o : Oper), l.toArray[j]? = some o → o.dst ≠ some t := fun j o h2 h3 => h ⟨j, o, h2, h3⟩
            rw [hF.other t h']
            refine (t2 t fun p hp => ?_).symm
            obtain ⟨j, _, h2, _⟩ := hpre1 p hp
            exact h' j p (by rw [hget]; exact h2)
        have hy' := hy.of_same hal.1 hal.2
        have hqo := hy'.qOp (K := fun a' => a' = a.put o.dst v) ho rfl
        refine wpOp_of_qOp ⟨⟨w, Below.refl _ _⟩, rfl⟩ ?_ hqo
        rintro a' w' ⟨X, rfl⟩ rfl
        have hX := X.h
        refine ih (U.erase i) _ _ _ vb hlen' hnd' hUm' ⟨hls', hF.later.trans (hX.mono hF.later.size), by rw [put_size, hF.size], by rw [put_defers, hF.defers], ?_, ?_, ?_, ?_, ?_⟩
        · intro j oj t hoj hd hjb
          rw [put_get, hlist j]
          by_cases hji : j = i
          · subst hji
            rw [ho] at hoj; cases hoj
            rw [if_pos hd, if_pos rfl, if_pos rfl, hTi, hF.slot j o t ho hd hjb, if_neg (by rw [getD_both hiu]; simp)]
            exact (t3 t hd).symm
          · have hne : o.dst ≠ some t := fun h => hdist ho hoj (Ne.symm hji) t h hd
            rw [if_neg hne, if_neg hji, hF.slot j oj t hoj hd hjb]
        · intro t hd
          have hne : o.dst ≠ some t := fun h => hdist ho hobA hib t h hd
          rw [put_get, if_neg hne, hF.slotb t hd, hlist b, if_neg (Ne.symm hib)]
        · intro t h
          rw [put_get, if_neg (h i o ho), hF.other t h]
        · intro k hk1 hk2
          rw [hlist k] at hk2
          have hki : k ≠ i := fun e => by subst e; rw [hTi] at hk1; cases hk1
          rw [if_neg hki] at hk2
          rw [hlist b, if_neg (Ne.symm hib)]
          exact hF.tb k hk1 hk2
        · intro h
          rw [hlist b, if_neg (Ne.symm hib)] at h
          exact hBp vb w _ (hF.box h) hX
      | true =>
        have hbt : listed.getD b false = true := by
          have h1 := hTw i hilt
          rw [Bool.or_eq_true] at h1
          obtain ⟨k, _, h2⟩ := List.any_eq_true.1 (h1.resolve_left (by rw [hTi]; simp))
          simp only [Bool.and_eq_true, Bool.or_eq_true, beq_iff_eq] at h2
          obtain ⟨o', ho', e, he, hbd, hon⟩ := Region.waitsFor_spec h2.2
          rw [ho] at ho'; cases ho'
          have h3 := hdep e he hbd
          rw [hon] at h3
          rcases h2.1 with rfl | h4
          · exact h3
          · exact hF.tb k h4 h3
        have hD := hF.box hbt
        obtain ⟨pre, post, hsplit, hpre1, hpre2⟩ := selF_split T l 0 i o hol (by rw [Nat.zero_add]; exact hTi)
        obtain ⟨_, _, _, htext⟩ := hTT vb w hF.later hD
        obtain ⟨ai, v, hy, t1, t2, t3⟩ := htext _ o _ hsplit
        have hpo : ∀ t, (∀ (j : Nat) (oj : Oper), l.toArray[j]? = some oj → T j = true → oj.dst ≠ some t) → ai.tmps[t]? = (A1.put ob.dst vb).tmps[t]? := fun t h => t2 t fun p hp => by
          obtain ⟨j, _, h2, h3⟩ := hpre1 p hp
          rw [Nat.zero_add] at h3
          exact h j p (by rw [hget]; exact h2) h3
        have hal := seen_alike (ops := l.toArray) (o := o) (a := a) (a' := ai) (fun cs bb => hselect i o cs bb ho) fun t htl => by
          by_cases hbd : ob.dst = some t
          · rw [hpo t fun j oj h1 h2 h3 => hdist hobA h1 (fun e => by subst e; rw [hTb] at h2; cases h2) t hbd h3, put_get, if_pos hbd, hF.slotb t hbd, if_pos hbt, hAo t fun j o h1 _ h3 h4 => hdist hobA h1 (Ne.symm h3) t hbd h4]
          · by_cases h : ∃ (j : Nat) (o : Oper), l.toArray[j]? = some o ∧ o.dst = some t
            · obtain ⟨j, oj, h2, h3⟩ := h
              obtain ⟨k1, k2, k3⟩ := hseen t htl j oj h2 h3
              have hjb : j ≠ b := fun e => by subst e; rw [hobA] at h2; cases h2; exact hbd h3
              rw [hF.slot j oj t h2 h3 hjb, if_pos k3]
              cases hTj : T j with
              | true => exact (t1 t ⟨oj, hpre2 j oj k2 (by rw [← hget]; exact h2) (by rw [Nat.zero_add]; exact hTj), h3⟩).symm
              | false =>
                rw [hpo t fun j' o' h1' h2' h3' => hdist h2 h1' (fun e => by subst e; rw [hTj] at h2'; cases h2') t h3 h3', put_get, if_neg hbd]; rfl
            · have h' : ∀ (j : Nat) (o : Oper), l.toArray[j]? = some o → o.dst ≠ some t := fun j o h2 h3 => h ⟨j, o, h2, h3⟩
              rw [hF.other t h', hpo t fun j o h1 _ => h' j o h1, put_get, if_neg hbd, hAo t fun j o h1 _ _ => h' j o h1]
        have hy' := hy.of_same hal.1 hal.2
        have hqo := hy'.qOp (K := fun a' => a' = a.put o.dst v) ho rfl
        refine wpOp_of_qOp ⟨⟨w, Below.refl _ _⟩, rfl⟩ ?_ hqo
        rintro a' w' ⟨X, rfl⟩ rfl
        have hX := X.h
        refine ih (U.erase i) _ _ _ vb hlen' hnd' hUm' ⟨hls', hF.later.trans (hX.mono hF.later.size), by rw [put_size, hF.size], by rw [put_defers, hF.defers], ?_, ?_, ?_, ?_, ?_⟩
        · intro j oj t hoj hd hjb
          rw [put_get, hlist j]
          by_cases hji : j = i
          · subst hji
            rw [ho] at hoj; cases hoj
            rw [if_pos hd, if_pos rfl, if_pos rfl, hTi, hF.slot j o t ho hd hjb, if_neg (by rw [getD_both hiu]; simp)]
            have e1 := t3 t hd
            have hbd : ob.dst ≠ some t := fun h => hdist hobA ho (Ne.symm hjb) t h hd
            rw [put_get, if_neg hbd, hAo t fun j' o' h1 h2 h3 h4 => hdist ho h1 (fun e => by subst e; rw [hTi] at h2; cases h2) t hd h4] at e1
            exact e1.symm
          · have hne : o.dst ≠ some t := fun h => hdist ho hoj (Ne.symm hji) t h hd
            rw [if_neg hne, if_neg hji, hF.slot j oj t hoj hd hjb]
        · intro t hd
          have hne : o.dst ≠ some t := fun h => hdist ho hobA hib t h hd
          rw [put_get, if_neg hne, hF.slotb t hd, hlist b, if_neg (Ne.symm hib)]
        · intro t h
          rw [put_get, if_neg (h i o ho), hF.other t h]
        · intro k _ _
          rw [hlist b, if_neg (Ne.symm hib)]
          exact hbt
        · intro h
          rw [hlist b, if_neg (Ne.symm hib)] at h
          exact hBp vb w _ (hF.box h) hX
/-- The rule. -/
theorem wp_region_part2 {id : Nat} (b : Nat) (T : Nat → Bool) (ob : Oper) (D : Value → World → Prop) (hm : P.follows .mixedOrders = true) (hB : Region.partB2 l.toArray b T = true) (hob : l[b]? = some ob)
    (hBp : ∀ v w w', D v w → Below w.heap.size w w' → D v w')
    (hh : ∃ A1, (∀ Y : Later W, wpQuiet P l.toArray (fun w' => ∃ X : Later2 Y, w' = X.w) (fun a' => a' = A1) (selF (fun i => !T i && !(i == b)) 0 l) a0) ∧ Region.wanted ob (yielded l.toArray A1.tmps) = true ∧
      (∀ w, Below W.heap.size W w → ∃ fn args, (execOp A1.eval ob).run P w = .ok (.enter fn args) w ∧ Calls P fn args w fun e w' => ∃ v, e = .returned v ∧ D v w' ∧ Below w.heap.size w w') ∧
        ∃ A2 : Value → Act, (∀ v w, Below W.heap.size W w → D v w → wpQuiet P l.toArray (fun w' => ∃ X : Later w, w' = X.w) (fun a' => a' = A2 v) (selF T 0 l) (A1.put ob.dst v)) ∧
          ∀ v w, Below W.heap.size W w → D v w → Q .normal (A2 v) w) :
    (Code.region id l.toArray true).wp P Q a0 W := by
  obtain ⟨A1, hq, hgw, hb, A2, hqT, ht⟩ := hh
  refine wp_region_any hm ?_
  exact part_run2 (W := W) (a0 := a0) (A1 := A1) (A2 := A2) (D := D) (Q := Q) hB hob hgw hq hb hBp hqT ht l.toArray.size (List.range l.toArray.size) (Array.replicate l.toArray.size false) a0 { W with drawn := W.drawn + 1 } undef (by simp) List.nodup_range (fun i => by rw [List.mem_range]; exact ⟨fun h => ⟨h, getD_replicate_false _ _⟩, fun h => h.1⟩)
    ⟨by simp, ⟨rfl, rfl, rfl, Nat.le_refl _, fun _ _ => rfl⟩, rfl, rfl, fun j o t _ _ _ => by rw [getD_replicate_false]; rfl, fun t _ => by rw [getD_replicate_false]; rfl, fun _ _ => rfl, fun k _ h => (by rw [getD_replicate_false] at h; cases h), fun h => by rw [getD_replicate_false] at h; cases h⟩
/-- The same, the last state told by the first one. -/
theorem wp_region_partG2 {id : Nat} (b : Nat) (T : Nat → Bool) (ob : Oper) (D : Value → World → Prop) (G : Act → Value → Act) (hm : P.follows .mixedOrders = true) (hB : Region.partB2 l.toArray b T = true) (hob : l[b]? = some ob)
    (hBp : ∀ v w w', D v w → Below w.heap.size w w' → D v w')
    (hh : ∃ A1, (∀ Y : Later W, wpQuiet P l.toArray (fun w' => ∃ X : Later2 Y, w' = X.w) (fun a' => a' = A1) (selF (fun i => !T i && !(i == b)) 0 l) a0) ∧ Region.wanted ob (yielded l.toArray A1.tmps) = true ∧
      (∀ w, Below W.heap.size W w → ∃ fn args, (execOp A1.eval ob).run P w = .ok (.enter fn args) w ∧ Calls P fn args w fun e w' => ∃ v, e = .returned v ∧ D v w' ∧ Below w.heap.size w w') ∧
        (∀ v w, Below W.heap.size W w → D v w → wpQuiet P l.toArray (fun w' => ∃ X : Later w, w' = X.w) (fun a' => a' = G A1 v) (selF T 0 l) (A1.put ob.dst v)) ∧
          ∀ v w, Below W.heap.size W w → D v w → Q .normal (G A1 v) w) :
    (Code.region id l.toArray true).wp P Q a0 W := by
  obtain ⟨A1, hq, hgw, hb, hqT, ht⟩ := hh
  exact wp_region_part2 b T ob D hm hB hob hBp ⟨A1, hq, hgw, hb, G A1, hqT, ht⟩
end
end Go
