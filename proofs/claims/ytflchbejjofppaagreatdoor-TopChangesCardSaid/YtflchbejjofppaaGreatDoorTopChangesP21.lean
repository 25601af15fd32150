/- Lemmas on the way to the law TopChanges (part 21): Rk Ec Ed Ee Ef Eg Dg Em Eo Ep Es Ex Fa -/
import Derived.Test.YtflchbejjofppaaGreatDoorTopChangesP20
import Derived.Test.YtflchbejjofppaaGreatDoorTopChangesP16
import Derived.Shelf.Spec.BitsCarry
import Derived.Test.YtflchbejjofppaaGreatDoorTopChangesP15
import Derived.Lib.EndianBits
import Derived.Test.YtflchbejjofppaaGreatDoorTopChangesP11
import Derived.Test.YtflchbejjofppaaGreatDoorTopChangesP18
import Derived.Test.YtflchbejjofppaaGreatDoorTopChangesP19
set_option linter.unusedVariables false
set_option linter.unusedSimpArgs false

/- A region that draws its order, in which one operation makes memory: the operations that do not look at its answer are quiet in any order. -/
namespace Go
open Go.RowKit
section
variable {P : Program} {l : List Oper} {b : Nat} {T : Nat → Bool} {ob : Oper} {W : World} {a0 A1 : Act} {A2 : Value → Act} {D : Value → World → Prop} {Q : Exit → Act → World → Prop}
structure PartFlowA (ops : Array Oper) (b : Nat) (T : Nat → Bool) (ob : Oper) (W : World) (a0 A1 : Act) (A2 : Value → Act) (D : Value → World → Prop) (listed : Array Bool) (a : Act) (w : World) (v : Value) : Prop where
  lsize : listed.size = ops.size
  later : Below W.heap.size W w
  size : a.tmps.size = a0.tmps.size
  defers : a.defers = a0.defers
  slot : ∀ (j : Nat) (o : Oper) (t : Nat), ops[j]? = some o → o.dst = some t → j ≠ b → a.tmps[t]? = if listed.getD j false = true then (if T j then (A2 v).tmps[t]? else A1.tmps[t]?) else a0.tmps[t]?
  slotb : ∀ t, ob.dst = some t → a.tmps[t]? = if listed.getD b false = true then a0.tmps[t]?.map (fun _ => v) else a0.tmps[t]?
  other : ∀ t, (∀ (j : Nat) (o : Oper), ops[j]? = some o → o.dst ≠ some t) → a.tmps[t]? = a0.tmps[t]?
  tb : ∀ k, T k = true → listed.getD k false = true → listed.getD b false = true
  box : listed.getD b false = true → D v w
variable {P : Program} {l : List Oper} {b : Nat} {T : Nat → Bool} {ob : Oper} {W : World} {a0 A1 : Act} {A2 : Value → Act} {D : Value → World → Prop} {Q : Exit → Act → World → Prop}
theorem partA_run (hB : Region.partB l.toArray b T = true) (hob : l[b]? = some ob)
    (hq : ∀ Y : Later W, wpQuiet P l.toArray (fun w' => ∃ X : Later2 Y, w' = X.w) (fun a' => a' = A1) (selF (fun i => !T i && !(i == b)) 0 l) a0)
    (hb : ∀ w, Below W.heap.size W w → ∃ v w', (execOp A1.eval ob).run P w = .ok (.value v) w' ∧ D v w' ∧ Below w.heap.size w w')
    (hBp : ∀ v w w', D v w → Below w.heap.size w w' → D v w')
    (hqT : ∀ v w, Below W.heap.size W w → D v w → wpQuiet P l.toArray (fun w' => ∃ X : Later w, w' = X.w) (fun a' => a' = A2 v) (selF T 0 l) (A1.put ob.dst v))
    (ht : ∀ v w, Below W.heap.size W w → D v w → Q .normal (A2 v) w) :
    ∀ (f : Nat) (U : List Nat) (listed : Array Bool) (a : Act) (w : World) (vb : Value), U.length = f → U.Nodup → (∀ i, i ∈ U ↔ i < l.toArray.size ∧ listed.getD i false = false) →
      PartFlowA l.toArray b T ob W a0 A1 A2 D listed a w vb → wpAny P .any l.toArray Q f listed a w := by
  simp only [Region.partB, Bool.and_eq_true, decide_eq_true_eq, List.all_eq_true, List.mem_range, Bool.not_eq_true'] at hB
  obtain ⟨⟨⟨⟨⟨⟨⟨hsel, hbn⟩, hTb⟩, hedge⟩, hpair⟩, hguard⟩, hblind⟩, hTw⟩ := hB
  have hget : ∀ i : Nat, l.toArray[i]? = l[i]? := fun i => by simp
  have hselect := Region.noSelect_spec hsel
  have hlt : ∀ {i : Nat} {o : Oper}, l.toArray[i]? = some o → i < l.toArray.size := fun h => (Array.getElem?_eq_some_iff.1 h).1
  have hobA : l.toArray[b]? = some ob := by rw [hget]; exact hob
  have hdist : ∀ {i j : Nat} {x y : Oper}, l.toArray[i]? = some x → l.toArray[j]? = some y → i ≠ j → ∀ t, x.dst = some t → y.dst ≠ some t := fun hi hj hne t hd =>
    Region.flowPair_dst (hpair _ (hlt hi) _ (hlt hj)) hi hj hne hd
  have hpw : ∀ g : Nat → Bool, (selF g 0 l).Pairwise (fun o o' => ∀ t, o.dst = some t → o'.dst ≠ some t) := fun g =>
    selF_pair g l 0 fun i j x y hij hx hy => hdist (by rw [hget]; exact hx) (by rw [hget]; exact hy) (by omega)
  have hHm : ∀ o, o ∈ selF (fun i => !T i && !(i == b)) 0 l → ∃ j : Nat, l.toArray[j]? = some o ∧ T j = false ∧ j ≠ b := fun o ho => by
    obtain ⟨j, h1, h2⟩ := selF_mem _ l 0 o ho
    simp only [Nat.zero_add, Bool.and_eq_true, Bool.not_eq_true', beq_eq_false_iff_ne] at h2
    exact ⟨j, by rw [hget]; exact h1, h2.1, h2.2⟩
  have hTm : ∀ o, o ∈ selF T 0 l → ∃ j : Nat, l.toArray[j]? = some o ∧ T j = true := fun o ho => by
    obtain ⟨j, h1, h2⟩ := selF_mem _ l 0 o ho
    rw [Nat.zero_add] at h2
    exact ⟨j, by rw [hget]; exact h1, h2⟩
  have hA := quiet_text _ _ (hq ⟨W, Below.refl _ _⟩) (hpw _)
  have hAo : ∀ t, (∀ (j : Nat) (o : Oper), l.toArray[j]? = some o → T j = false → j ≠ b → o.dst ≠ some t) → A1.tmps[t]? = a0.tmps[t]? := fun t h => hA.1 t fun o ho => by
    obtain ⟨j, h1, h2, h3⟩ := hHm o ho
    exact h j o h1 h2 h3
  have hAs := hA.2.1
  have hAd := hA.2.2.1
  have hTT := fun (v : Value) (w : World) (h1 : Below W.heap.size W w) (h2 : D v w) => quiet_text _ _ (hqT v w h1 h2) (hpw T)
  have hTo : ∀ v w, Below W.heap.size W w → D v w → ∀ t, (∀ (j : Nat) (o : Oper), l.toArray[j]? = some o → T j = true → o.dst ≠ some t) → (A2 v).tmps[t]? = (A1.put ob.dst v).tmps[t]? := fun v w h1 h2 t h => (hTT v w h1 h2).1 t fun o ho => by
    obtain ⟨j, h3, h4⟩ := hTm o ho
    exact h j o h3 h4
  intro f
  induction f with
  | zero =>
    intro U listed a w vb hU _ hUm hF
    obtain rfl : U = [] := List.eq_nil_of_length_eq_zero hU
    have hall : ∀ i, i < l.toArray.size → listed.getD i false = true := fun i hi => by
      cases h : listed.getD i false with
      | true => rfl
      | false => have := (hUm i).2 ⟨hi, h⟩; simp at this
    have hbt := hall b hbn
    have hD := hF.box hbt
    refine ⟨?_, ?_⟩
    · rw [List.eq_nil_iff_forall_not_mem]
      intro j hj
      obtain ⟨h1, o, ho, _⟩ := mem_ready.1 hj
      have h2 := hall j (hlt ho)
      rw [getD_both h1] at h2; cases h2
    have ha : a = A2 vb := by
      have hTs := hTT vb w hF.later hD
      have htm : a.tmps = (A2 vb).tmps := by
        apply Array.ext_getElem?
        intro t
        by_cases hbd : ob.dst = some t
        · have e1 := hTo vb w hF.later hD t fun j o h1 h2 h3 => hdist hobA h1 (fun e => by subst e; rw [hTb] at h2; cases h2) t hbd h3
          rw [e1, put_get, if_pos hbd, hF.slotb t hbd, if_pos hbt, hAo t fun j o h1 _ h3 h4 => hdist hobA h1 (Ne.symm h3) t hbd h4]
        · by_cases h : ∃ (j : Nat) (o : Oper), l.toArray[j]? = some o ∧ o.dst = some t
          · obtain ⟨j, o, h2, h3⟩ := h
            have hjb : j ≠ b := fun e => by subst e; rw [hobA] at h2; cases h2; exact hbd h3
            rw [hF.slot j o t h2 h3 hjb, if_pos (hall j (hlt h2))]
            cases hTj : T j with
            | true => rfl
            | false =>
              have e1 := hTo vb w hF.later hD t fun j' o' h1' h2' h3' => hdist h2 h1' (fun e => by subst e; rw [hTj] at h2'; cases h2') t h3 h3'
              rw [e1, put_get, if_neg hbd]; rfl
          · have h' : ∀ (j : Nat) (o : Oper), l.toArray[j]? = some o → o.dst ≠ some t := fun j o h2 h3 => h ⟨j, o, h2, h3⟩
            rw [hF.other t h', hTo vb w hF.later hD t fun j o h1 _ => h' j o h1, put_get, if_neg hbd, hAo t fun j o h1 _ _ => h' j o h1]
      have hd : a.defers = (A2 vb).defers := by rw [hTs.2.2.1, put_defers, hAd, hF.defers]
      cases a; simp only at htm hd; cases hX : A2 vb; rw [hX] at htm hd; simp only at htm hd; rw [htm, hd]
    rw [ha]
    exact ht vb w hF.later hD
  | succ f ih =>
    intro U listed a w vb hU hnd hUm hF
    obtain ⟨i0, hi0, hleast⟩ := exists_leastM U (fun e => by rw [e] at hU; simp at hU)
    obtain ⟨hi0n, hi0u⟩ := (hUm i0).1 hi0
    have hin : ∀ i, i < l.toArray.size → i < listed.size := fun i hi => by rw [hF.lsize]; exact hi
    have hready : i0 ∈ Region.ready .any l.toArray listed := by
      refine mem_ready.2 ⟨getD_in (hin _ hi0n) hi0u, l.toArray[i0], Array.getElem?_eq_getElem hi0n, fun e he hbd => ?_⟩
      have h1 := hedge i0 hi0n
      rw [Array.getElem?_eq_getElem hi0n] at h1
      simp only [Array.all_eq_true_iff_forall_mem] at h1
      have h2 := h1 e he
      simp only [hbd, Bool.not_true, Bool.false_or, decide_eq_true_eq] at h2
      cases h : listed.getD e.on false with
      | true => rfl
      | false =>
        have := hleast e.on ((hUm e.on).2 ⟨by omega, h⟩)
        omega
    refine ⟨fun h => (by rw [h] at hready; cases hready), fun i hi => ?_⟩
    obtain ⟨hiu, o, ho, hdep⟩ := mem_ready.1 hi
    have hilt := hlt ho
    have hiU : i ∈ U := (hUm i).2 ⟨hilt, getD_both hiu⟩
    have hlist : ∀ j, (listed.setIfInBounds i true).getD j false = if j = i then true else listed.getD j false := fun j => by
      by_cases h : j = i
      · subst h; rw [if_pos rfl]; simp [hin j hilt]
      · rw [if_neg h, getD_set_ne false (Ne.symm h)]
    have hUm' : ∀ j, j ∈ U.erase i ↔ j < l.toArray.size ∧ (listed.setIfInBounds i true).getD j false = false := fun j => by
      rw [hnd.mem_erase_iff, hUm j, hlist j]
      by_cases h : j = i
      · simp [h]
      · simp [h]
    have hlen' : (U.erase i).length = f := by rw [List.length_erase_of_mem hiU]; omega
    have hnd' := hnd.erase i
    have hls' : (listed.setIfInBounds i true).size = l.toArray.size := by simp [hF.lsize]
    have hseen : ∀ t ∈ o.looksAt l.toArray, ∀ (j : Nat) (oj : Oper), l.toArray[j]? = some oj → oj.dst = some t → i ≠ j ∧ j < i ∧ listed.getD j false = true := by
      intro t ht j oj hoj hd
      have hne : i ≠ j := fun e => by
        subst e
        rw [ho] at hoj; cases hoj
        exact Region.flowPair_self (hpair i hilt i hilt) ho hd ht
      have h1 := Region.flowPair_looks (hpair i hilt j (hlt hoj)) ho hoj hne hd ht
      obtain ⟨o', ho', e, he, hbd, hon⟩ := Region.waitsFor_spec h1.2
      rw [ho] at ho'; cases ho'
      have := hdep e he hbd
      rw [hon] at this
      exact ⟨hne, h1.1, this⟩
    have hblin : T i = false → ∀ t ∈ o.looksAt l.toArray, ∀ (j : Nat) (oj : Oper), l.toArray[j]? = some oj → oj.dst = some t → T j = false ∧ (i = b ∨ j ≠ b) := fun hTi t ht j oj hoj hd => by
      have h1 := hblind i hilt
      rw [Bool.or_eq_true] at h1
      have h2 := List.all_eq_true.1 (h1.resolve_left (by rw [hTi]; simp)) j (List.mem_range.2 (hlt hoj))
      simp only [Bool.or_eq_true, Bool.not_eq_true', Bool.or_eq_false_iff, Bool.and_eq_true, beq_iff_eq, beq_eq_false_iff_ne] at h2
      rcases h2 with (h2 | h2) | h2
      · exact ⟨h2.1, .inr h2.2⟩
      · exact ⟨by rw [h2.2]; exact hTb, .inl h2.1⟩
      · exact absurd ht (Region.blindTo_spec h2 ho hoj hd)
    by_cases hib : i = b
    · subst hib
      rw [hobA] at ho; cases ho
      have hg : ob.guard = none := by rw [hobA] at hguard; simpa using hguard
      obtain ⟨v', w', hrun, hbox, hbel⟩ := hb w hF.later
      have hex : execOp a.eval ob = execOp A1.eval ob := (seen_alike (ops := l.toArray) (fun cs bb => hselect i ob cs bb hobA) fun t htl => by
        by_cases h : ∃ (j : Nat) (o : Oper), l.toArray[j]? = some o ∧ o.dst = some t
        · obtain ⟨j, oj, h2, h3⟩ := h
          obtain ⟨k1, k2, k3⟩ := hseen t htl j oj h2 h3
          rw [hF.slot j oj t h2 h3 (Ne.symm k1), if_pos k3, (hblin hTb t htl j oj h2 h3).1]; rfl
        · have h' : ∀ (j : Nat) (o : Oper), l.toArray[j]? = some o → o.dst ≠ some t := fun j o h2 h3 => h ⟨j, o, h2, h3⟩
          rw [hF.other t h', hAo t fun j o h1 _ _ => h' j o h1]).1
      unfold wpOp
      simp only [hobA]
      rw [if_pos (by simp [Region.wanted, hg])]
      refine .inl ?_
      unfold Oper.wp
      rw [hex, hrun]
      simp only [Oper.upon_value]
      refine ih (U.erase i) _ _ _ v' hlen' hnd' hUm' ⟨hls', hF.later.trans (hbel.mono hF.later.size), by rw [put_size, hF.size], by rw [put_defers, hF.defers], ?_, ?_, ?_, ?_, fun _ => hbox⟩
      · intro j oj t hoj hd hjb
        have hne : ob.dst ≠ some t := fun h => hdist hobA hoj (Ne.symm hjb) t h hd
        rw [put_get, if_neg hne, hF.slot j oj t hoj hd hjb, hlist j, if_neg hjb]
        by_cases hTj : T j = true
        · have hjn : listed.getD j false = false := by
            cases h : listed.getD j false with
            | false => rfl
            | true => have := hF.tb j hTj h; rw [getD_both hiu] at this; cases this
          rw [if_neg (by rw [hjn]; simp), if_neg (by rw [hjn]; simp)]
        · rw [if_neg hTj, if_neg hTj]
      · intro t hd
        rw [put_get, if_pos hd, hlist i, if_pos rfl, if_pos rfl, hF.slotb t hd, if_neg (by rw [getD_both hiu]; simp)]
      · intro t h
        rw [put_get, if_neg (h i ob hobA), hF.other t h]
      · intro k _ _
        rw [hlist i, if_pos rfl]
    · have hol : l[i]? = some o := by rw [← hget]; exact ho
      cases hTi : T i with
      | false =>
        obtain ⟨pre, post, hsplit, hpre1, hpre2⟩ := selF_split (fun i => !T i && !(i == b)) l 0 i o hol (by rw [Nat.zero_add]; simp [hTi, hib])
        obtain ⟨_, _, _, htext⟩ := quiet_text _ _ (hq ⟨w, hF.later⟩) (hpw _)
        obtain ⟨ai, v, hy, t1, t2, t3⟩ := htext _ o _ hsplit
        have hal := seen_alike (ops := l.toArray) (o := o) (a := a) (a' := ai) (fun cs bb => hselect i o cs bb ho) fun t htl => by
          by_cases h : ∃ (j : Nat) (o : Oper), l.toArray[j]? = some o ∧ o.dst = some t
          · obtain ⟨j, oj, h2, h3⟩ := h
            obtain ⟨k1, k2, k3⟩ := hseen t htl j oj h2 h3
            obtain ⟨hTj, hjb⟩ := hblin hTi t htl j oj h2 h3
            have hjb := hjb.resolve_left hib
            rw [hF.slot j oj t h2 h3 hjb, if_pos k3, hTj]
            refine (t1 t ⟨oj, hpre2 j oj k2 (by rw [← hget]; exact h2) (by rw [Nat.zero_add]; simp [hTj, hjb]), h3⟩).symm
          · have h' : ∀ (j : Nat) (o : Oper), l.toArray[j]? = some o → o.dst ≠ some t := fun j o h2 h3 => h ⟨j, o, h2, h3⟩
            rw [hF.other t h']
            refine (t2 t fun p hp => ?_).symm
            obtain ⟨j, _, h2, _⟩ := hpre1 p hp
            exact h' j p (by rw [hget]; exact h2)
        have hy' := hy.of_same hal.1 hal.2
        have hqo := hy'.qOp (K := fun a' => a' = a.put o.dst v) ho rfl
        refine wpOp_of_qOp ⟨⟨w, Below.refl _ _⟩, rfl⟩ ?_ hqo
        rintro a' w' ⟨X, rfl⟩ rfl
        have hX := X.h
        refine ih (U.erase i) _ _ _ vb hlen' hnd' hUm' ⟨hls', hF.later.trans (hX.mono hF.later.size), by rw [put_size, hF.size], by rw [put_defers, hF.defers], ?_, ?_, ?_, ?_, ?_⟩
        · intro j oj t hoj hd hjb
          rw [put_get, hlist j]
          by_cases hji : j = i
          · subst hji
            rw [ho] at hoj; cases hoj
            rw [if_pos hd, if_pos rfl, if_pos rfl, hTi, hF.slot j o t ho hd hjb, if_neg (by rw [getD_both hiu]; simp)]
            exact (t3 t hd).symm
          · have hne : o.dst ≠ some t := fun h => hdist ho hoj (Ne.symm hji) t h hd
            rw [if_neg hne, if_neg hji, hF.slot j oj t hoj hd hjb]
        · intro t hd
          have hne : o.dst ≠ some t := fun h => hdist ho hobA hib t h hd
          rw [put_get, if_neg hne, hF.slotb t hd, hlist b, if_neg (Ne.symm hib)]
        · intro t h
          rw [put_get, if_neg (h i o ho), hF.other t h]
        · intro k hk1 hk2
          rw [hlist k] at hk2
          have hki : k ≠ i := fun e => by subst e; rw [hTi] at hk1; cases hk1
          rw [if_neg hki] at hk2
          rw [hlist b, if_neg (Ne.symm hib)]
          exact hF.tb k hk1 hk2
        · intro h
          rw [hlist b, if_neg (Ne.symm hib)] at h
          exact hBp vb w _ (hF.box h) hX
      | true =>
        have hbt : listed.getD b false = true := by
          have h1 := hTw i hilt
          rw [Bool.or_eq_true] at h1
          obtain ⟨k, _, h2⟩ := List.any_eq_true.1 (h1.resolve_left (by rw [hTi]; simp))
          simp only [Bool.and_eq_true, Bool.or_eq_true, beq_iff_eq] at h2
          obtain ⟨o', ho', e, he, hbd, hon⟩ := Region.waitsFor_spec h2.2
          rw [ho] at ho'; cases ho'
          have h3 := hdep e he hbd
          rw [hon] at h3
          rcases h2.1 with rfl | h4
          · exact h3
          · exact hF.tb k h4 h3
        have hD := hF.box hbt
        obtain ⟨pre, post, hsplit, hpre1, hpre2⟩ := selF_split T l 0 i o hol (by rw [Nat.zero_add]; exact hTi)
        obtain ⟨_, _, _, htext⟩ := hTT vb w hF.later hD
        obtain ⟨ai, v, hy, t1, t2, t3⟩ := htext _ o _ hsplit
        have hpo : ∀ t, (∀ (j : Nat) (oj : Oper), l.toArray[j]? = some oj → T j = true → oj.dst ≠ some t) → ai.tmps[t]? = (A1.put ob.dst vb).tmps[t]? := fun t h => t2 t fun p hp => by
          obtain ⟨j, _, h2, h3⟩ := hpre1 p hp
          rw [Nat.zero_add] at h3
          exact h j p (by rw [hget]; exact h2) h3
        have hal := seen_alike (ops := l.toArray) (o := o) (a := a) (a' := ai) (fun cs bb => hselect i o cs bb ho) fun t htl => by
          by_cases hbd : ob.dst = some t
          · rw [hpo t fun j oj h1 h2 h3 => hdist hobA h1 (fun e => by subst e; rw [hTb] at h2; cases h2) t hbd h3, put_get, if_pos hbd, hF.slotb t hbd, if_pos hbt, hAo t fun j o h1 _ h3 h4 => hdist hobA h1 (Ne.symm h3) t hbd h4]
          · by_cases h : ∃ (j : Nat) (o : Oper), l.toArray[j]? = some o ∧ o.dst = some t
            · obtain ⟨j, oj, h2, h3⟩ := h
              obtain ⟨k1, k2, k3⟩ := hseen t htl j oj h2 h3
              have hjb : j ≠ b := fun e => by subst e; rw [hobA] at h2; cases h2; exact hbd h3
              rw [hF.slot j oj t h2 h3 hjb, if_pos k3]
              cases hTj : T j with
              | true => exact (t1 t ⟨oj, hpre2 j oj k2 (by rw [← hget]; exact h2) (by rw [Nat.zero_add]; exact hTj), h3⟩).symm
              | false =>
                rw [hpo t fun j' o' h1' h2' h3' => hdist h2 h1' (fun e => by subst e; rw [hTj] at h2'; cases h2') t h3 h3', put_get, if_neg hbd]; rfl
            · have h' : ∀ (j : Nat) (o : Oper), l.toArray[j]? = some o → o.dst ≠ some t := fun j o h2 h3 => h ⟨j, o, h2, h3⟩
              rw [hF.other t h', hpo t fun j o h1 _ => h' j o h1, put_get, if_neg hbd, hAo t fun j o h1 _ _ => h' j o h1]
        have hy' := hy.of_same hal.1 hal.2
        have hqo := hy'.qOp (K := fun a' => a' = a.put o.dst v) ho rfl
        refine wpOp_of_qOp ⟨⟨w, Below.refl _ _⟩, rfl⟩ ?_ hqo
        rintro a' w' ⟨X, rfl⟩ rfl
        have hX := X.h
        refine ih (U.erase i) _ _ _ vb hlen' hnd' hUm' ⟨hls', hF.later.trans (hX.mono hF.later.size), by rw [put_size, hF.size], by rw [put_defers, hF.defers], ?_, ?_, ?_, ?_, ?_⟩
        · intro j oj t hoj hd hjb
          rw [put_get, hlist j]
          by_cases hji : j = i
          · subst hji
            rw [ho] at hoj; cases hoj
            rw [if_pos hd, if_pos rfl, if_pos rfl, hTi, hF.slot j o t ho hd hjb, if_neg (by rw [getD_both hiu]; simp)]
            have e1 := t3 t hd
            have hbd : ob.dst ≠ some t := fun h => hdist hobA ho (Ne.symm hjb) t h hd
            rw [put_get, if_neg hbd, hAo t fun j' o' h1 h2 h3 h4 => hdist ho h1 (fun e => by subst e; rw [hTi] at h2; cases h2) t hd h4] at e1
            exact e1.symm
          · have hne : o.dst ≠ some t := fun h => hdist ho hoj (Ne.symm hji) t h hd
            rw [if_neg hne, if_neg hji, hF.slot j oj t hoj hd hjb]
        · intro t hd
          have hne : o.dst ≠ some t := fun h => hdist ho hobA hib t h hd
          rw [put_get, if_neg hne, hF.slotb t hd, hlist b, if_neg (Ne.symm hib)]
        · intro t h
          rw [put_get, if_neg (h i o ho), hF.other t h]
        · intro k _ _
          rw [hlist b, if_neg (Ne.symm hib)]
          exact hbt
        · intro h
          rw [hlist b, if_neg (Ne.symm hib)] at h
          exact hBp vb w _ (hF.box h) hX
theorem wp_region_partA {id : Nat} (b : Nat) (T : Nat → Bool) (ob : Oper) (D : Value → World → Prop) (hm : P.follows .mixedOrders = true) (hB : Region.partB l.toArray b T = true) (hob : l[b]? = some ob)
    (hBp : ∀ v w w', D v w → Below w.heap.size w w' → D v w')
    (hh : ∃ A1, (∀ Y : Later W, wpQuiet P l.toArray (fun w' => ∃ X : Later2 Y, w' = X.w) (fun a' => a' = A1) (selF (fun i => !T i && !(i == b)) 0 l) a0) ∧
      (∀ w, Below W.heap.size W w → ∃ v w', (execOp A1.eval ob).run P w = .ok (.value v) w' ∧ D v w' ∧ Below w.heap.size w w') ∧
        ∃ A2 : Value → Act, (∀ v w, Below W.heap.size W w → D v w → wpQuiet P l.toArray (fun w' => ∃ X : Later w, w' = X.w) (fun a' => a' = A2 v) (selF T 0 l) (A1.put ob.dst v)) ∧
          ∀ v w, Below W.heap.size W w → D v w → Q .normal (A2 v) w) :
    (Code.region id l.toArray true).wp P Q a0 W := by
  obtain ⟨A1, hq, hb, A2, hqT, ht⟩ := hh
  refine wp_region_any hm ?_
  exact partA_run (W := W) (a0 := a0) (A1 := A1) (A2 := A2) (D := D) (Q := Q) hB hob hq hb hBp hqT ht l.toArray.size (List.range l.toArray.size) (Array.replicate l.toArray.size false) a0 { W with drawn := W.drawn + 1 } undef (by simp) List.nodup_range (fun i => by rw [List.mem_range]; exact ⟨fun h => ⟨h, getD_replicate_false _ _⟩, fun h => h.1⟩)
    ⟨by simp, ⟨rfl, rfl, rfl, Nat.le_refl _, fun _ _ => rfl⟩, rfl, rfl, fun j o t _ _ _ => by rw [getD_replicate_false]; rfl, fun t _ => by rw [getD_replicate_false]; rfl, fun _ _ => rfl, fun k _ h => (by rw [getD_replicate_false] at h; cases h), fun h => by rw [getD_replicate_false] at h; cases h⟩
theorem wp_region_partAG {id : Nat} (b : Nat) (T : Nat → Bool) (ob : Oper) (D : Value → World → Prop) (G : Act → Value → Act) (hm : P.follows .mixedOrders = true) (hB : Region.partB l.toArray b T = true) (hob : l[b]? = some ob)
    (hBp : ∀ v w w', D v w → Below w.heap.size w w' → D v w')
    (hh : ∃ A1, (∀ Y : Later W, wpQuiet P l.toArray (fun w' => ∃ X : Later2 Y, w' = X.w) (fun a' => a' = A1) (selF (fun i => !T i && !(i == b)) 0 l) a0) ∧
      (∀ w, Below W.heap.size W w → ∃ v w', (execOp A1.eval ob).run P w = .ok (.value v) w' ∧ D v w' ∧ Below w.heap.size w w') ∧
        (∀ v w, Below W.heap.size W w → D v w → wpQuiet P l.toArray (fun w' => ∃ X : Later w, w' = X.w) (fun a' => a' = G A1 v) (selF T 0 l) (A1.put ob.dst v)) ∧
          ∀ v w, Below W.heap.size W w → D v w → Q .normal (G A1 v) w) :
    (Code.region id l.toArray true).wp P Q a0 W := by
  obtain ⟨A1, hq, hb, hqT, ht⟩ := hh
  exact wp_region_partA b T ob D hm hB hob hBp ⟨A1, hq, hb, G A1, hqT, ht⟩
end
end Go
/- Walks: (num.Int).parts, num.made. -/
namespace Go.Proofs.YtflchbejjofppaaGreatDoor.Nu
open Go Go.Proofs Go.RowKit Go.Proofs.YtflchbejjofppaaGreatDoor
theorem run_neq_nil {P : Program} (w : World) (t e : TypeId) (a : Option Addr) (n c n' c' : Nat) (h : P.underlying t = some (.slice e)) :
    (binOp .neq t (.slice a n c) (.slice none n' c')).run P w = .ok (.bool (!a.isNone)) w := by
  simp only [binOp]
  simp [Op.equal, Op.maxDepth, Lib.run_equalIn_slice_nil w 9999 t e a n c n' c' h]
structure WlR (w : World) (v : Value) (l : List Nat) (m : Nat) : Prop where
  sc : Sc encW 1 w w.heap.size v l
  dg : Dg (2 ^ 64) l
  tr : Tr l
  eq : val (2 ^ 64) l = m
theorem WlR.later {w w' : World} {v : Value} {l : List Nat} {m : Nat} (h : WlR w v l m) (hb : Below w.heap.size w w') : WlR w' v l m := ⟨h.sc.later hb, h.dg, h.tr, h.eq⟩
theorem WlR.len {w : World} {v : Value} {l : List Nat} {m k : Nat} (h : WlR w v l m) (hm : Wds k (m : Int)) : l.length ≤ k := by
  refine Wds.len (k := k) ?_ h.tr
  rw [h.eq]; exact hm
def PartsP (w : World) (z : Int) (e : Ending) (w' : World) : Prop :=
  ∃ a n c l, e = .returned (.tuple #[.bool (decide (z < 0)), .slice a n c]) ∧ WlR w' (.slice a n c) l z.natAbs ∧ n = l.length ∧ Below w.heap.size w w'
set_option maxRecDepth 100000 in
set_option maxHeartbeats 1000000 in
theorem parts95 (w : World) (v : Value) (z : Int) (h : IntR w v z) : Calls Tryz.prog 95 #[v] w (PartsP w z) := by
  have hq := fun (w : World) (a : Option Addr) (n c : Nat) => Lib.run_eql_slice_nil w 79 157 a n c 0 0 Tryz.underlying79
  have hq2 := fun (w : World) (a : Option Addr) (n c : Nat) => run_neq_nil w 79 157 a n c 0 0 Tryz.underlying79
  have HPOST : Hid (∀ e w', PartsP w z e w' ↔ ∃ a n c l, e = .returned (.tuple #[.bool (decide (z < 0)), .slice a n c]) ∧ WlR w' (.slice a n c) l z.natAbs ∧ n = l.length ∧ Below w.heap.size w w') := Lib.hid (fun _ _ => Iff.rfl)
  obtain ⟨Q, hQ⟩ : ∃ Q, PartsP w z = Q := ⟨_, rfl⟩
  rw [hQ] at HPOST ⊢
  clear hQ
  rcases h with ⟨rfl, h1, h2⟩ | ⟨s, b, off, n, c, l, rfl, hsc, hn, hn0, hdg, htr, hbig, hs⟩
  · have HB := Lib.hid ((Below.refl w.heap.size w).alloc (Nat.le_refl _) (.cells #[.int .i64 z, .slice none 0 0] 81))
    have HX := Lib.hid (Box.new w #[.int .i64 z, .slice none 0 0] 81)
    obtain ⟨x0, x1, xf, xz⟩ := HX.out.v2
    by_cases h0 : z = 0
    · subst h0
      clear h1 h2
      go_enter Tryz.func95, Tryz.ntmps95
      go_wp2_with fail
      exact (HPOST.out _ _).2 ⟨none, 0, 0, [], rfl, ⟨Sc.nil _ _ _ _ _ _, Dg.nil _, Tr.nil, rfl⟩, rfl, HB.out⟩
    · have d0 : (z == 0) = false := beq_eq_false_iff_ne.2 h0
      have HS := Lib.hid (size104 z h1 h2)
      have HZ := Lib.hid (show z.natAbs < 2 ^ 64 ∧ z.natAbs ≠ 0 by omega)
      obtain ⟨q, hq1⟩ : ∃ q, decide (z < 0) = q := ⟨_, rfl⟩
      rw [hq1] at HPOST
      obtain ⟨m, hm⟩ : ∃ m, z.natAbs = m := ⟨_, rfl⟩
      rw [hm] at HPOST HS HZ
      clear h0 h1 h2 hm
      go_enter Tryz.func95, Tryz.ntmps95
      go_wp2_with fail
      refine wp_region_partAG 6 (fun i => i == 8) _ (fun v u => ∃ g, v = .slice (some ⟨g, 0, none⟩) 1 1 ∧ Sc encW 1 u u.heap.size v [m]) (fun A v => (A.put (some 23) v).put (some 3) v) (by kernel_rfl) (by kernel_rfl) rfl (fun v u u' h hb => by obtain ⟨g, h1, h2⟩ := h; exact ⟨g, h1, h2.later hb⟩) ?_
      apply Exists.intro
      refine ⟨fun Y => ?_, fun wa hwa => ⟨.slice (some ⟨wa.heap.size, 0, none⟩) 1 1, wa.alloc (.cells #[.int .u64 (m : Int)] 157), ?_, ⟨_, rfl, Sc.of_own encW_len (by simp) (Own.lit (f := encW) (sz := 1) (l := [m]) encW_len 157 wa #[.int .u64 (m : Int)] 1 wa.heap.size rfl rfl (by simp) (Nat.le_refl _))⟩, (Below.refl _ _).alloc (Nat.le_refl _) _⟩, fun vl w2 hb hD => ?_, fun vl w2 hb hD => ?_⟩
      · simp only [selF, Nat.reduceAdd, Nat.reduceBEq, Bool.not_true, Bool.not_false, Bool.and_true, Bool.and_false, Bool.and_self, if_true, if_false, Bool.false_eq_true, reduceIte]
        repeat go_big_quiet_step ((go_at_call 104; exact Calls.later2_same (HS.out _)))
        exact wpQuiet_nil rfl
      · go_simp
        first | done | rfl | (go_ints; rfl)
      · obtain ⟨g, rfl, hsc⟩ := hD
        simp only [selF, Nat.reduceAdd, Nat.reduceBEq, Bool.not_true, Bool.not_false, Bool.and_true, Bool.and_false, Bool.and_self, if_true, if_false, Bool.false_eq_true, reduceIte]
        simp only [Act.put, List.setIfInBounds_toArray, List.set_cons_succ, List.set_cons_zero]
        repeat go_big_quiet_step (fail)
        exact wpQuiet_nil rfl
      obtain ⟨g, rfl, hsc⟩ := hD
      simp only [Act.put, List.setIfInBounds_toArray, List.set_cons_succ, List.set_cons_zero]
      have HD := Lib.hid hsc
      have HB2 := Lib.hid (HB.out.trans (hb.mono HB.out.size))
      clear hb hsc x0 x1 xf xz
      go_wp2_with fail
      refine (HPOST.out _ _).2 ⟨_, 1, 1, [m], rfl, ⟨HD.out, Dg.one HZ.out.1, Tr.of_last (fun _ => by simpa using HZ.out.2), by simp [val]⟩, rfl, HB2.out⟩
  · have HB := Lib.hid ((Below.refl w.heap.size w).alloc (Nat.le_refl _) (.cells #[.int .i64 s, .slice (some ⟨b, off, none⟩) n c] 81))
    have HX := Lib.hid (Box.new w #[.int .i64 s, .slice (some ⟨b, off, none⟩) n c] 81)
    obtain ⟨x0, x1, xf, xz⟩ := HX.out.v2
    have HW := Lib.hid (show WlR w (.slice (some ⟨b, off, none⟩) n c) l z.natAbs from ⟨hsc, hdg, htr, by rcases hs with ⟨_, h⟩ | ⟨_, h⟩ <;> omega⟩)
    have d0 : decide (s < 0) = decide (z < 0) := by
      rcases hs with ⟨h1, h2⟩ | ⟨h1, h2⟩
      · rw [decide_eq_false (show ¬ s < 0 by omega), decide_eq_false (show ¬ z < 0 by omega)]
      · rw [decide_eq_true (show s < 0 by omega), decide_eq_true (show z < 0 by omega)]
    generalize decide (z < 0) = q at *
    have HN := Lib.hid hn
    clear hs hsc hn
    go_enter Tryz.func95, Tryz.ntmps95
    go_wp2_with fail
    go_quiet (fail)
    go_wp2_with fail
    exact (HPOST.out _ _).2 ⟨_, n, c, l, rfl, HW.out.later (below_drewN HB.out _), HN.out, below_drewN HB.out _⟩
end Go.Proofs.YtflchbejjofppaaGreatDoor.Nu
/- Walks: num.made. -/
namespace Go.Proofs.YtflchbejjofppaaGreatDoor.Nu
open Go Go.Proofs Go.RowKit Go.Proofs.YtflchbejjofppaaGreatDoor
def RetI (w : World) (z : Int) (e : Ending) (w' : World) : Prop := ∃ v, e = .returned v ∧ IntR w' v z ∧ Below w.heap.size w w'
theorem RetI.mk {w w' : World} {z : Int} {v v' : Value} (h : v = v') (h1 : IntR w' v' z) (hb : Below w.heap.size w w') : RetI w z (.returned v) w' := ⟨v, rfl, h ▸ h1, hb⟩
def signed (neg : Bool) (m : Nat) : Int := if neg then -(m : Int) else m
end Go.Proofs.YtflchbejjofppaaGreatDoor.Nu
/- Walks: (num.Int).Sign, Neg, Abs. -/
namespace Go.Proofs.YtflchbejjofppaaGreatDoor.Nu
open Go Go.Proofs Go.RowKit Go.Proofs.YtflchbejjofppaaGreatDoor
theorem IntR.form {w : World} {v : Value} {z : Int} (h : IntR w v z) : ∃ s a n c, v = .agg #[.int .i64 s, .slice a n c] ∧ s.sign = z.sign ∧ -9223372036854775808 ≤ s ∧ s ≤ 9223372036854775807 ∧ ((a = none ∧ s = z ∧ n = 0 ∧ c = 0) ∨ a.isNone = false) := by
  rcases h with ⟨rfl, h1, h2⟩ | ⟨s, b, off, n, c, l, rfl, hsc, hn, hn0, hdg, htr, hbig, hs⟩
  · exact ⟨z, none, 0, 0, rfl, rfl, h1, h2, .inl ⟨rfl, rfl, rfl, rfl⟩⟩
  · refine ⟨s, _, n, c, rfl, ?_, ?_, ?_, .inr rfl⟩
    · rcases hs with ⟨h1, h2⟩ | ⟨h1, h2⟩
      · rw [h1, h2, Int.sign_eq_one_of_pos (by omega : (0 : Int) < (val (2 ^ 64) l : Int))]; rfl
      · rw [h1, h2, Int.sign_eq_neg_one_of_neg (by omega : -(val (2 ^ 64) l : Int) < 0)]; rfl
    · rcases hs with ⟨h1, _⟩ | ⟨h1, _⟩ <;> omega
    · rcases hs with ⟨h1, _⟩ | ⟨h1, _⟩ <;> omega
theorem At.box {w : World} {b o k : Nat} {x : Nat} {e : TypeId} {vs : List Value} (h : At w b o (encW x)) (hB : Box w k e vs) (hv : ∀ y, Value.int .u64 y ∉ vs) (j : Nat) (u : Value) : At (w.setCell ⟨k, j, none⟩ u) b o (encW x) := by
  have hne : b ≠ k := fun e => by
    subst e
    have h1 := h.c1
    rw [hB.cell] at h1
    exact hv _ (List.mem_of_getElem? h1)
  intro q y hq
  rw [World.cell?_setCell_other _ _ _ _ (by intro e; injection e with e1; exact absurd e1 (by omega))]
  exact h q y hq
theorem Sc.box {w : World} {B : Nat} {v : Value} {l : List Nat} (h : Sc encW 1 w B v l) {k : Nat} {e : TypeId} {vs : List Value} (hB : Box w k e vs) (hv : ∀ y, Value.int .u64 y ∉ vs) (j : Nat) (u : Value) : Sc encW 1 (w.setCell ⟨k, j, none⟩ u) B v l := by
  obtain ⟨a, c, rfl, h1, h2, h⟩ := h
  refine ⟨a, c, rfl, h1, h2, fun h0 => ?_⟩
  obtain ⟨b, off, rfl, hb, hc⟩ := h h0
  exact ⟨b, off, rfl, hb, fun i hi => At.box (hc i hi) hB hv j u⟩
theorem IntR.box {w : World} {v : Value} {z : Int} (h : IntR w v z) {k : Nat} {e : TypeId} {vs : List Value} (hB : Box w k e vs) (hv : ∀ y, Value.int .u64 y ∉ vs) (j : Nat) (u : Value) : IntR (w.setCell ⟨k, j, none⟩ u) v z := by
  rcases h with h | ⟨s, b, off, n, c, l, h1, h2, h3⟩
  · exact .inl h
  · exact .inr ⟨s, b, off, n, c, l, h1, by simpa using h2.box hB hv j u, h3⟩
theorem IntR.put {w : World} {v : Value} {z : Int} (h : IntR w v z) {k : Nat} {e : TypeId} {s : Int} {a : Option Addr} {n c : Nat} (hB : Box w k e [.int .i64 s, .slice a n c]) (s1 : Int) (v2 : Value) : IntR ((w.setCell ⟨k, 0, none⟩ (.int .i64 s1)).setCell ⟨k, 1, none⟩ v2) v z :=
  (h.box hB (by simp) 0 _).box (hB.set 0 (.int .i64 s1)) (by simp) 1 _
end Go.Proofs.YtflchbejjofppaaGreatDoor.Nu
/- Walks: num.trim, num.compareWords. -/
namespace Go.Proofs.YtflchbejjofppaaGreatDoor.Nu
open Go Go.Proofs Go.RowKit Go.Proofs.YtflchbejjofppaaGreatDoor
def icmp (a b : Int) : Int := if a < b then -1 else if b < a then 1 else 0
end Go.Proofs.YtflchbejjofppaaGreatDoor.Nu
/- Walks: num.addWords, num.subWords. -/
namespace Go.Proofs.YtflchbejjofppaaGreatDoor.Nu
open Go Go.Proofs Go.RowKit Go.Proofs.YtflchbejjofppaaGreatDoor
theorem ownBlk {α : Type} {f : α → List Value} {sz : Nat} {e : TypeId} {w : World} {base g n c : Nat} {l : List α} (h : Own f sz e w base (.slice (some ⟨g, 0, none⟩) n c) l) : g < w.heap.size := by
  rcases h.2 with ⟨hv, _⟩ | ⟨g', cap, cur, hv, hb, hg, _⟩
  · cases hv
  · injection hv with e1 e2 e3
    injection e1 with e1
    injection e1 with e1
    rw [e1]
    exact (Array.getElem?_eq_some_iff.1 hg).1
theorem own_set1 {α : Type} {f : α → List Value} {e : TypeId} {w : World} {base g n c : Nat} {l : List α} (h : Own f 1 e w base (.slice (some ⟨g, 0, none⟩) n c) l) (hn : l.length = n) (hf : ∀ x, (f x).length = 1) (i : Nat) (hi : i < n) (y : α) (v : Value) (hv : f y = [v]) :
    Own f 1 e (w.setCell ⟨g, i, none⟩ v) base (.slice (some ⟨g, 0, none⟩) n c) (l.set i y) := by
  have h1 := Own.setN h hn hf i (by omega) 0 (by omega) v y (by
    have h2 := hf (l[i]'(by omega))
    obtain ⟨a, ha⟩ := List.length_eq_one_iff.1 h2
    rw [ha, hv]; rfl)
  simpa using h1
theorem own_cell1 {α : Type} {f : α → List Value} {e : TypeId} {w : World} {base g n c : Nat} {l : List α} (h : Own f 1 e w base (.slice (some ⟨g, 0, none⟩) n c) l) (hn : l.length = n) (hf : ∀ x, (f x).length = 1) (i : Nat) (hi : i < l.length) (v : Value) (hv : f l[i] = [v]) : w.cell? ⟨g, i, none⟩ = some v := by
  have h1 := Own.atN h hn hf i hi
  rw [hv] at h1
  have := h1.c1
  rwa [Nat.mul_one] at this
end Go.Proofs.YtflchbejjofppaaGreatDoor.Nu
/- Plain: the quotient of two words by one, by halves. -/
namespace Go.Proofs.YtflchbejjofppaaGreatDoor
structure HfI (T u Y v1 t r : Nat) : Prop where
  top : t * v1 + r = T
  ge : T * 4294967296 + u < (t + 1) * Y
  rB : r < 4294967296
structure HfC (T u Y v1 v0 : Nat) : Prop where
  hy : Y = v1 * 4294967296 + v0
  hv0 : v0 < 4294967296
  hv1 : 2147483648 ≤ v1
  hv1' : v1 < 4294967296
  hlt : T < Y
  hu : u < 4294967296
theorem HfC.start {T u Y v1 v0 : Nat} (h : HfC T u Y v1 v0) : HfI T u Y v1 (T / v1) (T % v1) := by
  have h1 := h.hv1
  have h2 := h.hv1'
  have hm : T % v1 < v1 := Nat.mod_lt _ (by omega)
  have hd := Nat.div_add_mod T v1
  refine ⟨by rw [Nat.mul_comm]; exact hd, ?_, by omega⟩
  have e : (T / v1 + 1) * Y = (v1 * (T / v1) + v1) * 4294967296 + (T / v1 + 1) * v0 := by rw [h.hy]; grind
  have := h.hu
  omega
theorem HfI.step {T u Y v1 v0 t r : Nat} (hc : HfC T u Y v1 v0) (h : HfI T u Y v1 t r) (ht : 4294967296 ≤ t ∨ r * 4294967296 + u < t * v0) : 0 < t ∧ (t - 1) * v1 + (r + v1) = T ∧ T * 4294967296 + u < (t - 1 + 1) * Y := by
  have h1 := div2_step (B := 4294967296) (T := T) (u2 := u) (v1 := v1) (v2 := v0) h.top (by
    rw [← hc.hy]
    have := hc.hlt
    have : 4294967296 * (T + 1) ≤ 4294967296 * Y := Nat.mul_le_mul_left _ hc.hlt
    have := hc.hu
    omega) ht
  rw [← hc.hy] at h1
  exact h1
theorem HfC.done {T u Y v1 v0 t r : Nat} (hc : HfC T u Y v1 v0) (top : t * v1 + r = T) (ge : T * 4294967296 + u < (t + 1) * Y) (he : 4294967296 ≤ r ∨ t * v0 ≤ r * 4294967296 + u) : t = (T * 4294967296 + u) / Y ∧ t * Y ≤ T * 4294967296 + u ∧ t < 4294967296 := by
  have hlt := hc.hlt
  have hy := hc.hy
  have hv0 := hc.hv0
  have htB : 4294967296 ≤ r → t ≤ 4294967296 := fun hr => by
    rcases Nat.lt_or_ge 4294967296 t with h | h
    · have : 4294967297 * v1 ≤ t * v1 := Nat.mul_le_mul_right _ h
      omega
    · exact h
  have h1 := div2_done (B := 4294967296) (T := T) (u2 := u) (v1 := v1) (v2 := v0) top (by rw [← hy]; exact ge) hv0 (by
    rcases he with he | he
    · exact .inl ⟨he, htB he⟩
    · exact .inr he)
  rw [← hy] at h1
  refine ⟨h1.1, h1.2, ?_⟩
  rw [h1.1]
  apply Nat.div_lt_of_lt_mul
  have := hc.hu
  have : 4294967296 * (T + 1) ≤ 4294967296 * Y := Nat.mul_le_mul_left _ hlt
  rw [Nat.mul_comm Y]
  omega
end Go.Proofs.YtflchbejjofppaaGreatDoor
/- Walks: bits.LeadingZeros64, bits.Div64. -/
namespace Go.Proofs.YtflchbejjofppaaGreatDoor.Nu
open Go Go.Proofs Go.RowKit Go.Proofs.YtflchbejjofppaaGreatDoor
theorem start_facts {T v1 : Nat} (h1 : 0 < v1) (hT : T < 2 ^ 64) : ∃ t0 p0 r0 : Nat, IntKind.u64.wrap ((T : Int) / (v1 : Int)) = (t0 : Int) ∧ IntKind.u64.wrap ((t0 : Int) * (v1 : Int)) = (p0 : Int) ∧ IntKind.u64.wrap ((T : Int) - (p0 : Int)) = (r0 : Int) ∧ t0 = T / v1 ∧ r0 = T % v1 := by
  have hd := Nat.div_add_mod T v1
  have hl := Nat.div_le_self T v1
  have e : (T : Int) / (v1 : Int) = ((T / v1 : Nat) : Int) := (Int.natCast_ediv T v1).symm
  refine ⟨T / v1, T / v1 * v1, T % v1, ?_, ?_, ?_, rfl, rfl⟩
  · rw [e]
    generalize T / v1 = d at *
    rw [IntWalk.u64_in _ (by omega)]
  · clear e
    generalize T / v1 = d at *
    generalize T % v1 = r at *
    rw [Nat.mul_comm v1 d] at hd
    rw [show (d : Int) * (v1 : Int) = ((d * v1 : Nat) : Int) by simp]
    generalize d * v1 = P at *
    rw [IntWalk.u64_in _ (by omega)]
  · clear e
    generalize T / v1 = d at *
    generalize T % v1 = r at *
    rw [Nat.mul_comm v1 d] at hd
    generalize d * v1 = P at *
    rw [IntWalk.u64_in _ (by omega)]; omega
end Go.Proofs.YtflchbejjofppaaGreatDoor.Nu
/- Plain and walks: num.step: the trial digit. -/
namespace Go.Proofs.YtflchbejjofppaaGreatDoor.Nu
open Go Go.Proofs Go.RowKit Go.Proofs.YtflchbejjofppaaGreatDoor
theorem drop_set_add {α : Type} (l : List α) (k i : Nat) (y : α) : (l.set (k + i) y).drop k = (l.drop k).set i y := by
  rw [List.drop_set, if_neg (by omega), Nat.add_sub_cancel_left]
theorem take_set_add {α : Type} (l : List α) (k i : Nat) (y : α) : (l.set (k + i) y).take k = l.take k := List.take_set_of_le (by omega)
end Go.Proofs.YtflchbejjofppaaGreatDoor.Nu
/- Walks: num.step. -/
namespace Go.Proofs.YtflchbejjofppaaGreatDoor.Nu
open Go Go.Proofs Go.RowKit Go.Proofs.YtflchbejjofppaaGreatDoor
structure SbI (W0 : List Nat) (u v u' : List Nat) (k t cy bw i : Nat) : Prop where
  len : u'.length = u.length
  tk : u'.take k = u.take k
  dg : Dg (2 ^ 64) u'
  b1 : bw ≤ 1
  cB : cy < 2 ^ 64
  sm : SmI (2 ^ 64) W0 v (u'.drop k) t (cy + bw) i
theorem SbI.step {W0 u v u' : List Nat} {k t cy bw i : Nat} (h : SbI W0 u v u' k t cy bw i) (hi : i < v.length) (hw : i < (u'.drop k).length) {s h1 b' : Nat} (hh : h1 < 2 ^ 64) (hb : b' ≤ 1) (hs : s < 2 ^ 64) (he : s + t * v[i] + (cy + bw) = (u'.drop k)[i] + 2 ^ 64 * (h1 + b')) : SbI W0 u v (u'.set (k + i) s) k t h1 b' (i + 1) :=
  ⟨by rw [List.length_set]; exact h.len, by rw [take_set_add]; exact h.tk, h.dg.set _ hs, hb, hh, by rw [drop_set_add]; exact h.sm.step hi hw hs he⟩
theorem SbI.un {W0 u v u' : List Nat} {k t cy bw : Nat} (h : SbI W0 u v u' k t cy bw v.length) (hW : Win (2 ^ 64) W0 v) (hw : v.length < (u'.drop k).length) : (u'.drop k)[v.length] = W0[v.length]'hW.len := by
  have h1 := h.sm.rest
  rw [List.drop_eq_getElem_cons hw, List.drop_eq_getElem_cons hW.len] at h1
  injection h1
structure AbS (u u2 v u3 : List Nat) (k c i : Nat) : Prop where
  len : u3.length = u.length
  tk : u3.take k = u.take k
  dg : Dg (2 ^ 64) u3
  ab : AbI (2 ^ 64) (u2.drop k) v (u3.drop k) c i
theorem AbS.step {u u2 v u3 : List Nat} {k c i : Nat} (h : AbS u u2 v u3 k c i) (hv : Dg (2 ^ 64) v) (hi : i < v.length) (hw : i < (u3.drop k).length) {s : Nat} (hs : s = (u3.drop k)[i] + v[i] + c) : AbS u u2 v (u3.set (k + i) (s % 2 ^ 64)) k (s / 2 ^ 64) (i + 1) :=
  ⟨by rw [List.length_set]; exact h.len, by rw [take_set_add]; exact h.tk, h.dg.set _ (Nat.mod_lt _ (by decide)), by rw [drop_set_add]; exact h.ab.step hv hi hw hs⟩
theorem AbS.un {u v u' u3 : List Nat} {k c x : Nat} (h3 : AbS u (u'.set (k + v.length) x) v u3 k c v.length) (hw2 : k + v.length < u'.length) : u3[k + v.length]? = some x := by
  have h1 := congrArg (fun l : List Nat => l[0]?) h3.ab.rest
  simp only [List.getElem?_drop, Nat.add_zero] at h1
  rw [h1, List.getElem?_set_self hw2]
end Go.Proofs.YtflchbejjofppaaGreatDoor.Nu
/- Walks: num.divide, by one word. -/
namespace Go.Proofs.YtflchbejjofppaaGreatDoor.Nu
open Go Go.Proofs Go.RowKit Go.Proofs.YtflchbejjofppaaGreatDoor
def trimN (l : List Nat) : Nat := (l.reverse.dropWhile (· == 0)).length
theorem trimN_of {l : List Nat} {k : Nat} (hk : k ≤ l.length) (ht : Tr (l.take k)) (hz : ∀ x ∈ l.drop k, x = 0) : k = trimN l := by
  unfold trimN
  have e : l.reverse = List.replicate (l.length - k) 0 ++ (l.take k).reverse := by
    conv => lhs; rw [← List.take_append_drop k l, List.reverse_append]
    congr 1
    rw [show l.drop k = List.replicate (l.drop k).length 0 from List.eq_replicate_of_mem hz, List.length_drop, List.reverse_replicate]
  rw [e]
  have e2 : (List.replicate (l.length - k) 0 ++ (l.take k).reverse).dropWhile (· == 0) = (l.take k).reverse := by
    rw [List.dropWhile_append_of_pos (by intro a ha; rw [(List.mem_replicate.1 ha).2]; rfl)]
    cases h : (l.take k).reverse with
    | nil => rfl
    | cons x r =>
      rw [List.dropWhile_cons_of_neg]
      intro hx
      have hx0 : x = 0 := by simpa using hx
      apply ht
      rw [← List.head?_reverse, h, hx0]; rfl
  rw [e2, List.length_reverse, List.length_take]
  omega
theorem mem_tw {α : Type} (p : α → Bool) : ∀ (l : List α) (x : α), x ∈ l.takeWhile p → p x = true
  | [], x, h => by cases h
  | y :: l, x, h => by
    rw [List.takeWhile_cons] at h
    split at h
    · rcases List.mem_cons.1 h with rfl | h
      · assumption
      · exact mem_tw p l x h
    · cases h
theorem trimN_spec (l : List Nat) : trimN l ≤ l.length ∧ Tr (l.take (trimN l)) ∧ ∀ x ∈ l.drop (trimN l), x = 0 := by
  obtain ⟨A, hA⟩ : ∃ A, (l.reverse.dropWhile (· == 0)) = A := ⟨_, rfl⟩
  obtain ⟨B, hB⟩ : ∃ B, (l.reverse.takeWhile (· == 0)) = B := ⟨_, rfl⟩
  have e : l = A.reverse ++ B.reverse := by
    rw [← hA, ← hB, ← List.reverse_append, List.takeWhile_append_dropWhile, List.reverse_reverse]
  have hN : trimN l = A.reverse.length := by rw [List.length_reverse, ← hA]; rfl
  rw [hN]
  refine ⟨?_, ?_, ?_⟩
  · rw [e, List.length_append]; omega
  · have ht : l.take A.reverse.length = A.reverse := by
      conv => lhs; rw [e]
      rw [List.take_append_of_le_length (Nat.le_refl _), List.take_of_length_le (Nat.le_refl _)]
    rw [ht]
    unfold Tr
    rw [List.getLast?_reverse]
    intro h
    have h3 := List.head?_dropWhile_not (fun x => x == 0) l.reverse
    rw [hA, h] at h3
    simp at h3
  · have hd : l.drop A.reverse.length = B.reverse := by
      conv => lhs; rw [e]
      rw [List.drop_append_of_le_length (Nat.le_refl _), List.drop_of_length_le (Nat.le_refl _), List.nil_append]
    rw [hd]
    intro x hx
    rw [List.mem_reverse, ← hB] at hx
    have := mem_tw _ _ _ hx
    simpa using this
end Go.Proofs.YtflchbejjofppaaGreatDoor.Nu
/- Walks: (num.Int).DivMod, both small. -/
namespace Go.Proofs.YtflchbejjofppaaGreatDoor.Nu
open Go Go.Proofs Go.RowKit Go.Proofs.YtflchbejjofppaaGreatDoor
def RetD (w : World) (z1 z2 : Int) (e : Ending) (w' : World) : Prop := ∃ u v, e = .returned (.tuple #[u, v]) ∧ IntR w' u z1 ∧ IntR w' v z2 ∧ Below w.heap.size w w'
theorem RetD.mk {w w' : World} {z1 z2 : Int} {u v x : Value} (h : x = .tuple #[u, v]) (h1 : IntR w' u z1) (h2 : IntR w' v z2) (hb : Below w.heap.size w w') : RetD w z1 z2 (.returned x) w' := ⟨u, v, by rw [h], h1, h2, hb⟩
end Go.Proofs.YtflchbejjofppaaGreatDoor.Nu
/- Walks: num.Gcd. -/
namespace Go.Proofs.YtflchbejjofppaaGreatDoor.Nu
open Go Go.Proofs Go.RowKit Go.Proofs.YtflchbejjofppaaGreatDoor
theorem IntR.uniq {w : World} {v : Value} {z z' : Int} (h : IntR w v z) (h' : IntR w v z') : z = z' := by
  rcases h with ⟨rfl, h1, h2⟩ | ⟨s, b, off, n, c, l, rfl, hsc, hn, hn0, hdg, htr, hbig, hs⟩
  · rcases h' with ⟨e, _, _⟩ | ⟨s, b, off, n, c, l, e, _⟩
    · simp at e; exact e
    · simp at e
  · rcases h' with ⟨e, _, _⟩ | ⟨s', b', off', n', c', l', e, hsc', hn', hn0', hdg', htr', hbig', hs'⟩
    · simp at e
    · simp only [Value.agg.injEq, Array.mk.injEq, List.cons.injEq, Value.int.injEq, Value.slice.injEq, Option.some.injEq, Addr.mk.injEq, true_and, and_true] at e
      obtain ⟨rfl, ⟨rfl, rfl⟩, rfl, rfl⟩ := e
      have el : l = l' := by
        refine List.ext_getElem (by omega) (fun i hi hi' => ?_)
        have g1 := (hsc.at i hi).c1
        have g2 := (hsc'.at i hi').c1
        rw [g1] at g2
        simp at g2
        omega
      subst el
      omega
end Go.Proofs.YtflchbejjofppaaGreatDoor.Nu
