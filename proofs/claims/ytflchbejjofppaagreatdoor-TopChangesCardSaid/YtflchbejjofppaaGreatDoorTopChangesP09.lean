/- Lemmas on the way to the law TopChanges (part 9): Rb WNr WNs -/
import Derived.Test.YtflchbejjofppaaGreatDoorTopChangesP01
import Derived.Test.YtflchbejjofppaaGreatDoorTopChangesP06
import Derived.Test.YtflchbejjofppaaGreatDoorTopChangesP08
import Derived.Deep.RegionHeld3
import Derived.Deep.AppendLies
import Derived.IntWalk
set_option linter.unusedVariables false
set_option linter.unusedSimpArgs false

/- A region that draws its order, as in text R, whose first operation is a move that may come at any time. -/
namespace Go
open Go.RowKit
section
variable {P : Program} {ops : Array Oper}
def Region.sinkB1 (ops : Array Oper) (n : Nat) : Bool :=
  (List.range n).all fun i => i == 0 || (List.range (n + 1)).any fun j => decide (i < j) && Region.waitsFor .any ops j i
theorem tail_waits1 {n : Nat} {listed : Array Bool} (hs : Region.sinkB1 ops n = true) (hc : Region.chainB .any ops n = true) (hn : n < ops.size) (inv : HeadInv .any ops n listed) :
    ∀ (d i : Nat), n - i = d → i < n → i ≠ 0 → listed.getD i true = false → ∀ t, n ≤ t → t ∉ Region.ready .any ops listed := by
  intro d
  induction d using Nat.strongRecOn with
  | _ d ih =>
    intro i hd hi hi0 hun t ht hr
    obtain ⟨_, ot, hot, hall⟩ := mem_ready.1 hr
    have htlt : t < ops.size := (Array.getElem?_eq_some_iff.1 hot).1
    by_cases htn : t = n
    · subst htn
      have h1 := List.all_eq_true.1 hs i (List.mem_range.2 hi)
      simp only [Bool.or_eq_true, beq_iff_eq, hi0, false_or] at h1
      obtain ⟨j, hj, hj2⟩ := List.any_eq_true.1 h1
      simp only [Bool.and_eq_true, decide_eq_true_eq] at hj2
      obtain ⟨oj, hoj, e, he, hb, hon⟩ := Region.waitsFor_spec hj2.2
      have hjle : j ≤ t := by have := List.mem_range.1 hj; omega
      by_cases hjt : j = t
      · subst hjt
        have : oj = ot := Option.some.inj (hoj.symm.trans hot)
        subst this
        have h2 := hall e he hb
        rw [hon, getD_both hun] at h2
        cases h2
      · cases hl : listed.getD j false with
        | true =>
          have h2 := inv.closed j oj hoj hl e he hb
          rw [hon, getD_both hun] at h2
          cases h2
        | false =>
          have hjs : j < listed.size := by rw [inv.size]; omega
          exact ih (t - j) (by omega) j rfl (by omega) (by omega) (getD_in hjs hl) t (Nat.le_refl _) hr
    · have h1 := List.all_eq_true.1 hc t (List.mem_range.2 htlt)
      simp only [Bool.or_eq_true, decide_eq_true_eq] at h1
      rcases h1 with h1 | h1
      · omega
      · obtain ⟨o', ho', e, he, hb, hon⟩ := Region.waitsFor_spec h1
        have : o' = ot := Option.some.inj (ho'.symm.trans hot)
        subst this
        have h2 := hall e he hb
        rw [hon, getD_both (inv.tail (t - 1) (by omega) (by omega))] at h2
        cases h2
def Region.flowB1 (ops : Array Oper) (n b : Nat) : Bool :=
  Region.noSelect ops && decide (n < ops.size) && decide (b < n) && Region.sinkB1 ops n && Region.chainB .any ops n && Region.seqB .any ops (ops.size - n) n (Region.marked ops.size n) &&
  ((List.range n).all fun i => match ops[i]? with | some o => o.after.all fun e => !Region.binds .any e || decide (e.on < i) | none => true) &&
  ((List.range n).all fun i => (List.range n).all fun j => Region.flowPair ops i j) &&
  (match ops[b]? with | some o => o.guard.isNone | none => false) &&
  ((List.range n).all fun i => i == b || Region.blindTo ops i b)
def Region.firstB (ops : Array Oper) : Bool := Region.noSelect ops && Region.free .any ops (Array.replicate ops.size false) 0 && (Region.ready .any ops (Array.replicate ops.size false)).contains 0
end
section
variable {P : Program} {l : List Oper} {n b : Nat} {ob : Oper} {W : World} {a0 A : Act} {bv : Nat → Value} {B : Nat → World → Prop} {Q : Exit → Act → World → Prop}
theorem flow_run1 (hB : Region.flowB1 l.toArray n b = true) (hob : l[b]? = some ob)
    (hq : ∀ Y : Later W, wpQuiet P l.toArray (fun w' => ∃ X : Later2 Y, w' = X.w) (fun a' => a' = A) (headsOf l n b) a0)
    (hb : ∀ w, Below W.heap.size W w → ∃ w', (execOp A.eval ob).run P w = .ok (.value (bv w.heap.size)) w' ∧ B w.heap.size w' ∧ Below w.heap.size w w')
    (hBp : ∀ g w w', B g w → Below w.heap.size w w' → B g w')
    (ht : ∀ g w, Below W.heap.size W w → B g w → wpList P l.toArray Q (l.drop n) (A.put ob.dst (bv g)) w) :
    ∀ (f : Nat) (U : List Nat) (listed : Array Bool) (a : Act) (w : World) (g : Nat), U.length = f → U.Nodup → (∀ i, i ∈ U ↔ i < n ∧ listed.getD i false = false) →
      Flow l.toArray n b ob W a0 A bv B listed a w g → listed.getD 0 false = true → wpAny P .any l.toArray Q (f + (l.toArray.size - n)) listed a w := by
  simp only [Region.flowB1, Bool.and_eq_true, decide_eq_true_eq, List.all_eq_true, List.mem_range] at hB
  obtain ⟨⟨⟨⟨⟨⟨⟨⟨⟨hsel, hn⟩, hbn⟩, hsink⟩, hchain⟩, hseq⟩, hedge⟩, hpair⟩, hguard⟩, hblind⟩ := hB
  have hn' : n ≤ l.length := by have h := hn; rw [List.size_toArray] at h; omega
  have hsz : l.toArray.size = l.length := by simp
  have hget : ∀ i : Nat, l.toArray[i]? = l[i]? := fun i => by simp
  have hselect := Region.noSelect_spec hsel
  have hpw : (headsOf l n b).Pairwise (fun o o' => ∀ t, o.dst = some t → o'.dst ≠ some t) := by
    rw [List.pairwise_iff_getElem]
    intro i j hi hj hij t ht
    obtain ⟨i', h1, h2, h3, h4⟩ := headsOf_from hbn hn' (List.getElem?_eq_getElem hi)
    obtain ⟨j', k1, k2, k3, k4⟩ := headsOf_from hbn hn' (List.getElem?_eq_getElem hj)
    exact Region.flowPair_dst (hpair i' h1 j' k1) (by rw [hget]; exact h3) (by rw [hget]; exact k3) (fun e => by subst e; omega) ht
  have hA := quiet_text _ _ (hq ⟨W, Below.refl _ _⟩) hpw
  have hAo : ∀ t, (∀ j o, j < n → l.toArray[j]? = some o → j ≠ b → o.dst ≠ some t) → A.tmps[t]? = a0.tmps[t]? := fun t h => hA.1 t fun o ho => by
    obtain ⟨q, hq'⟩ := List.mem_iff_getElem?.1 ho
    obtain ⟨j, h1, h2, h3, _⟩ := headsOf_from hbn hn' hq'
    exact h j o h1 (by rw [hget]; exact h3) h2
  have hAs := hA.2.1
  have hAd := hA.2.2.1
  have hobA : l.toArray[b]? = some ob := by rw [hget]; exact hob
  intro f
  induction f with
  | zero =>
    intro U listed a w g hU _ hUm hF hz
    obtain rfl : U = [] := List.eq_nil_of_length_eq_zero hU
    have hall : ∀ i, i < n → listed.getD i false = true := fun i hi => by
      cases h : listed.getD i false with
      | true => rfl
      | false => have := (hUm i).2 ⟨hi, h⟩; simp at this
    have hl : listed = Region.marked l.toArray.size n := by
      apply Array.ext_getElem?
      intro i
      by_cases hi : i < l.toArray.size
      · have hil : i < listed.size := by rw [hF.inv.size]; exact hi
        have e2 : (Region.marked l.toArray.size n)[i]? = some (decide (i < n)) := by
          rw [List.size_toArray] at hi
          unfold Region.marked
          simp [hi]
        rw [e2, Array.getElem?_eq_getElem hil]
        by_cases hin : i < n
        · have := hall i hin
          simp [hil] at this
          simp [this, hin]
        · have := hF.inv.tail i (by omega) hi
          simp [hil] at this
          simp [this, hin]
      · rw [Array.getElem?_eq_none (by rw [hF.inv.size]; omega), Array.getElem?_eq_none (by rw [List.size_toArray] at hi; unfold Region.marked; simp; omega)]
    have hbt := hall b hbn
    have ha : a = A.put ob.dst (bv g) := by
      have htm : a.tmps = (A.put ob.dst (bv g)).tmps := by
        apply Array.ext_getElem?
        intro t
        rw [put_get]
        by_cases hbd : ob.dst = some t
        · rw [if_pos hbd, hF.slotb t hbd, if_pos hbt]
          by_cases h : t < a0.tmps.size
          · rw [Array.getElem?_eq_getElem h, Array.getElem?_eq_getElem (by rw [hAs]; exact h)]; rfl
          · rw [Array.getElem?_eq_none (by omega), Array.getElem?_eq_none (by rw [hAs]; omega)] <;> rfl
        · rw [if_neg hbd]
          by_cases h : ∃ j o, j < n ∧ l.toArray[j]? = some o ∧ o.dst = some t
          · obtain ⟨j, o, h1, h2, h3⟩ := h
            have hjb : j ≠ b := fun e => by subst e; rw [hobA] at h2; cases h2; exact hbd h3
            rw [hF.slot j o t h1 h2 h3 hjb, if_pos (hall j h1)]
          · have h' : ∀ j o, j < n → l.toArray[j]? = some o → o.dst ≠ some t := fun j o h1 h2 h3 => h ⟨j, o, h1, h2, h3⟩
            rw [hF.other t h', hAo t fun j o h1 h2 _ => h' j o h1 h2]
      have hd : a.defers = (A.put ob.dst (bv g)).defers := by rw [put_defers, hAd, hF.defers]
      cases a; simp only at htm hd; cases hX : A.put ob.dst (bv g); rw [hX] at htm hd; simp only at htm hd; rw [htm, hd]
    rw [ha]
    have hdl : (l.drop n).length = l.toArray.size - n := by simp
    have := wpAny_of_seq (md := .any) (Q' := Q) (ops := l.toArray) (l.drop n) n listed (A.put ob.dst (bv g)) w (fun j => by simp [List.getElem?_drop]) (by rw [hdl, hl]; exact hseq) (ht g w hF.later (hF.box hbt))
    rw [hdl] at this
    rwa [Nat.zero_add]
  | succ f ih =>
    intro U listed a w g hU hnd hUm hF hz
    obtain ⟨i0, hi0, hleast⟩ := exists_leastM U (fun e => by rw [e] at hU; simp at hU)
    obtain ⟨hi0n, hi0u⟩ := (hUm i0).1 hi0
    have hin : ∀ i, i < n → i < listed.size := fun i hi => by rw [hF.inv.size]; omega
    have hready : i0 ∈ Region.ready .any l.toArray listed := by
      have hlt : i0 < l.toArray.size := by omega
      refine mem_ready.2 ⟨getD_in (hin _ hi0n) hi0u, l.toArray[i0], Array.getElem?_eq_getElem hlt, fun e he hbd => ?_⟩
      have h1 := hedge i0 hi0n
      rw [Array.getElem?_eq_getElem hlt] at h1
      simp only [Array.all_eq_true_iff_forall_mem] at h1
      have h2 := h1 e he
      simp only [hbd, Bool.not_true, Bool.false_or, decide_eq_true_eq] at h2
      cases h : listed.getD e.on false with
      | true => rfl
      | false =>
        have := hleast e.on ((hUm e.on).2 ⟨by omega, h⟩)
        omega
    rw [show f + 1 + (l.toArray.size - n) = (f + (l.toArray.size - n)) + 1 by omega]
    refine ⟨fun h => (by rw [h] at hready; cases hready), fun i hi => ?_⟩
    obtain ⟨hiu, o, ho, hdep⟩ := mem_ready.1 hi
    have hilt : i < n := Nat.lt_of_not_le fun h => tail_waits1 hsink hchain hn hF.inv _ i0 rfl hi0n (by intro e; rw [e, hz] at hi0u; cases hi0u) (getD_in (hin _ hi0n) hi0u) i h hi
    have hiU : i ∈ U := (hUm i).2 ⟨hilt, getD_both hiu⟩
    have hinv := hF.inv.set hi hilt
    have hlist : ∀ j, (listed.setIfInBounds i true).getD j false = if j = i then true else listed.getD j false := fun j => by
      by_cases h : j = i
      · subst h; rw [if_pos rfl]; simp [hin j hilt]
      · rw [if_neg h, getD_set_ne false (Ne.symm h)]
    have hUm' : ∀ j, j ∈ U.erase i ↔ j < n ∧ (listed.setIfInBounds i true).getD j false = false := fun j => by
      rw [hnd.mem_erase_iff, hUm j, hlist j]
      by_cases h : j = i
      · simp [h]
      · simp [h]
    have hlen' : (U.erase i).length = f := by rw [List.length_erase_of_mem hiU]; omega
    have hnd' := hnd.erase i
    have hseen : ∀ t ∈ o.looksAt l.toArray, ∀ j oj, j < n → l.toArray[j]? = some oj → oj.dst = some t → i ≠ j ∧ j < i ∧ listed.getD j false = true := by
      intro t ht j oj hj hoj hd
      have hne : i ≠ j := fun e => by
        subst e
        rw [ho] at hoj; cases hoj
        exact Region.flowPair_self (hpair i hilt i hilt) ho hd ht
      have h1 := Region.flowPair_looks (hpair i hilt j hj) ho hoj hne hd ht
      obtain ⟨o', ho', e, he, hbd, hon⟩ := Region.waitsFor_spec h1.2
      rw [ho] at ho'; cases ho'
      have := hdep e he hbd
      rw [hon] at this
      exact ⟨hne, h1.1, this⟩
    by_cases hib : i = b
    · subst hib
      rw [hobA] at ho; cases ho
      have hg : ob.guard = none := by rw [hobA] at hguard; simpa using hguard
      obtain ⟨w', hrun, hbox, hbel⟩ := hb w hF.later
      have hex : execOp a.eval ob = execOp A.eval ob := (seen_alike (ops := l.toArray) (fun cs bb => hselect i ob cs bb hobA) fun t htl => by
        by_cases h : ∃ j o, j < n ∧ l.toArray[j]? = some o ∧ o.dst = some t
        · obtain ⟨j, oj, h1, h2, h3⟩ := h
          obtain ⟨k1, k2, k3⟩ := hseen t htl j oj h1 h2 h3
          rw [hF.slot j oj t h1 h2 h3 (Ne.symm k1), if_pos k3]
        · have h' : ∀ j o, j < n → l.toArray[j]? = some o → o.dst ≠ some t := fun j o h1 h2 h3 => h ⟨j, o, h1, h2, h3⟩
          rw [hF.other t h', hAo t fun j o h1 h2 _ => h' j o h1 h2]).1
      unfold wpOp
      simp only [hobA]
      rw [if_pos (by simp [Region.wanted, hg])]
      refine .inl ?_
      unfold Oper.wp
      rw [hex, hrun]
      simp only [Oper.upon_value]
      refine ih (U.erase i) _ _ _ w.heap.size hlen' hnd' hUm' ⟨hinv, hF.later.trans (hbel.mono hF.later.size), by rw [put_size, hF.size], by rw [put_defers, hF.defers], ?_, ?_, ?_, fun _ => hbox⟩ (getD_set_true hz)
      · intro j oj t hj hoj hd hjb
        have hne : ob.dst ≠ some t := fun h => Region.flowPair_dst (hpair i hilt j hj) hobA hoj (Ne.symm hjb) h hd
        rw [put_get, if_neg hne, hF.slot j oj t hj hoj hd hjb, hlist j, if_neg hjb]
      · intro t hd
        rw [put_get, if_pos hd, hlist i, if_pos rfl, if_pos rfl, hF.slotb t hd, if_neg (by rw [getD_both hiu]; simp)]
      · intro t h
        rw [put_get, if_neg (h i ob hilt hobA), hF.other t h]
    · have hpos := headsOf_get hbn hn' hilt hib
      have hol : l[i]? = some o := by rw [← hget]; exact ho
      rw [hol] at hpos
      have hsplit : headsOf l n b = (headsOf l n b).take (posOf b i) ++ o :: (headsOf l n b).drop (posOf b i + 1) := by
        have hlt := (List.getElem?_eq_some_iff.1 hpos).1
        have e := (List.getElem?_eq_some_iff.1 hpos).2
        rw [← e, ← List.drop_eq_getElem_cons hlt, List.take_append_drop]
      obtain ⟨_, _, _, htext⟩ := quiet_text _ _ (hq ⟨w, hF.later⟩) hpw
      obtain ⟨ai, v, hy, t1, t2, t3⟩ := htext _ o _ hsplit
      have hal := seen_alike (ops := l.toArray) (o := o) (a := a) (a' := ai) (fun cs bb => hselect i o cs bb ho) fun t htl => by
        by_cases h : ∃ j o, j < n ∧ l.toArray[j]? = some o ∧ o.dst = some t
        · obtain ⟨j, oj, h1, h2, h3⟩ := h
          obtain ⟨k1, k2, k3⟩ := hseen t htl j oj h1 h2 h3
          by_cases hjb : j = b
          · -- nobody else looks at b's yield
            subst hjb
            have h4 := hblind i hilt
            simp only [Bool.or_eq_true, beq_iff_eq, hib, false_or] at h4
            exact absurd htl (Region.blindTo_spec h4 ho h2 h3)
          · rw [hF.slot j oj t h1 h2 h3 hjb, if_pos k3]
            refine (t1 t ⟨oj, ?_, h3⟩).symm
            have hjp := headsOf_get hbn hn' h1 hjb
            rw [← hget, h2] at hjp
            refine List.mem_of_getElem? (i := posOf b j) ?_
            rw [List.getElem?_take, if_pos (by unfold posOf; split <;> split <;> omega)]
            exact hjp
        · have h' : ∀ j o, j < n → l.toArray[j]? = some o → o.dst ≠ some t := fun j o h1 h2 h3 => h ⟨j, o, h1, h2, h3⟩
          rw [hF.other t h']
          refine (t2 t fun p hp => ?_).symm
          obtain ⟨q, hq'⟩ := List.mem_iff_getElem?.1 (List.mem_of_mem_take hp)
          obtain ⟨j, h1, h2, h3, _⟩ := headsOf_from hbn hn' hq'
          exact h' j p h1 (by rw [hget]; exact h3)
      have hy' := hy.of_same hal.1 hal.2
      have hqo := hy'.qOp (K := fun a' => a' = a.put o.dst v) ho rfl
      refine wpOp_of_qOp ⟨⟨w, Below.refl _ _⟩, rfl⟩ ?_ hqo
      rintro a' w' ⟨X, rfl⟩ rfl
      have hX := X.h
      refine ih (U.erase i) _ _ _ g hlen' hnd' hUm' ⟨hinv, hF.later.trans (hX.mono hF.later.size), by rw [put_size, hF.size], by rw [put_defers, hF.defers], ?_, ?_, ?_, ?_⟩ (getD_set_true hz)
      · intro j oj t hj hoj hd hjb
        rw [put_get, hlist j]
        by_cases hji : j = i
        · subst hji
          rw [ho] at hoj; cases hoj
          rw [if_pos hd, if_pos rfl, if_pos rfl, hF.slot j o t hj ho hd hjb, if_neg (by rw [getD_both hiu]; simp), t3 t hd]
        · have hne : o.dst ≠ some t := fun h => Region.flowPair_dst (hpair i hilt j hj) ho hoj (Ne.symm hji) h hd
          rw [if_neg hne, if_neg hji, hF.slot j oj t hj hoj hd hjb]
      · intro t hd
        have hne : o.dst ≠ some t := fun h => Region.flowPair_dst (hpair i hilt b hbn) ho hobA hib h hd
        rw [put_get, if_neg hne, hF.slotb t hd, hlist b, if_neg (Ne.symm hib)]
      · intro t h
        rw [put_get, if_neg (h i o hilt ho), hF.other t h]
      · intro h
        rw [hlist b, if_neg (Ne.symm hib)] at h
        exact hBp g w _ (hF.box h) hX
theorem run_move {a : Act} {o : Oper} {x : Operand} (h : o.op = .move x) (w : World) : (execOp a.eval o).run P w = .ok (.value (a.eval x)) w := by
  unfold execOp; rw [h]; simp
theorem wp_region_flow1 {id : Nat} (n b : Nat) (ob : Oper) (k : Nat) (e : TypeId) (o0 : Oper) (x0 : Operand) (d0 : Tmp) (hb0 : 0 < b) (hm : P.follows .mixedOrders = true) (hB : Region.flowB1 l.toArray n b = true) (hF : Region.firstB l.toArray = true) (hob : l[b]? = some ob)
    (h0 : l[0]? = some o0) (h0o : o0.op = .move x0) (h0g : o0.guard = none) (h0d : o0.dst = some d0) (hpanic : ∀ c a w, Q (.panic c) (a.put (some d0) (a0.eval x0)) w → Q (.panic c) a w)
    (hh : ∃ A, (∀ Y : Later W, wpQuiet P l.toArray (fun w' => ∃ X : Later2 Y, w' = X.w) (fun a' => a' = A) (headsOf l n b) a0) ∧
      ∃ cs, (∀ w, (execOp A.eval ob).run P w = .ok (.value (.slice (some ⟨w.heap.size, 0, none⟩) k k)) (w.alloc (.cells cs e))) ∧
        ∀ g w, Below W.heap.size W w → W.heap.size ≤ g → w.heap[g]? = some (.cells cs e (0, 0)) → wpList P l.toArray Q (l.drop n) (A.put ob.dst (.slice (some ⟨g, 0, none⟩) k k)) w) :
    (Code.region id l.toArray true).wp P Q a0 W := by
  obtain ⟨A, hq, cs, hb, ht⟩ := hh
  refine wp_region_any hm ?_
  have hB' := hB
  simp only [Region.flowB1, Bool.and_eq_true, decide_eq_true_eq, List.all_eq_true, List.mem_range] at hB'
  obtain ⟨⟨⟨⟨⟨⟨⟨⟨⟨hsel, hn⟩, hbn⟩, hsink⟩, hchain⟩, hseq⟩, hedge⟩, hpair⟩, hguard⟩, hblind⟩ := hB'
  simp only [Region.firstB, Bool.and_eq_true] at hF
  obtain ⟨⟨_, hfree⟩, hready⟩ := hF
  have hn' : n ≤ l.length := by have h := hn; rw [List.size_toArray] at h; omega
  have h0A : l.toArray[0]? = some o0 := by simpa using h0
  have hget : ∀ i : Nat, l.toArray[i]? = l[i]? := fun i => by simp
  have hy : Yields P l.toArray o0 (a0.eval x0) a0 := .inl ⟨by simp [Region.wanted, h0g], fun w => run_move h0o w⟩
  obtain ⟨m, hm2⟩ : ∃ m, l.toArray.size = m + 1 := ⟨l.toArray.size - 1, by omega⟩
  rw [hm2]
  refine wpAny_take (i := 0) h0A hsel (by rw [hm2] at hfree; exact hfree) (by rw [hm2] at hready; exact hready) (by rw [h0d]; exact hpanic) hy ?_
  have hpw : (headsOf l n b).Pairwise (fun o o' => ∀ t, o.dst = some t → o'.dst ≠ some t) := by
    rw [List.pairwise_iff_getElem]
    intro i j hi hj hij t ht
    obtain ⟨i', h1, h2, h3, h4⟩ := headsOf_from hbn hn' (List.getElem?_eq_getElem hi)
    obtain ⟨j', k1, k2, k3, k4⟩ := headsOf_from hbn hn' (List.getElem?_eq_getElem hj)
    exact Region.flowPair_dst (hpair i' h1 j' k1) (by rw [hget]; exact h3) (by rw [hget]; exact k3) (fun e => by subst e; omega) ht
  have hA0 : A.tmps[d0]? = a0.tmps[d0]?.map (fun _ => a0.eval x0) := by
    have hp0 := headsOf_get hbn hn' (show 0 < n by omega) (Ne.symm (by omega) : (0 : Nat) ≠ b)
    rw [show posOf b 0 = 0 by unfold posOf; rw [if_pos hb0], h0] at hp0
    have hsplit : headsOf l n b = [] ++ o0 :: (headsOf l n b).drop 1 := by
      have hlt := (List.getElem?_eq_some_iff.1 hp0).1
      have e := (List.getElem?_eq_some_iff.1 hp0).2
      rw [List.nil_append, ← e, ← List.drop_eq_getElem_cons hlt, List.drop_zero]
    obtain ⟨_, _, _, htext⟩ := quiet_text _ _ (hq ⟨W, Below.refl _ _⟩) hpw
    obtain ⟨ai, v, hyi, _, t2, t3⟩ := htext _ o0 _ hsplit
    have hev : ai.eval x0 = a0.eval x0 := by
      cases x0 with
      | tmp t => simp only [Act.eval, Array.getD_eq_getD_getElem?]; rw [t2 t (by simp)]
      | const v => rfl
      | global g => rfl
      | func f => rfl
    have hv : v = a0.eval x0 := by
      rcases hyi with ⟨_, hq2⟩ | ⟨hw, _⟩
      · have h1 := hq2 W ⟨⟨W, Below.refl _ _⟩, rfl⟩
        unfold Oper.quietAt at h1
        rw [run_move h0o, hev] at h1
        exact h1.2.symm
      · simp [Region.wanted, h0g] at hw
    rw [t3 d0 h0d, hv]
  have inv0 : HeadInv .any l.toArray n (Array.replicate l.toArray.size false) :=
    ⟨by simp, fun j oj _ hl => (by rw [getD_replicate_false] at hl; cases hl), fun t _ ht => getD_in (by simpa using ht) (getD_replicate_false _ _)⟩
  have hr0 : 0 ∈ Region.ready .any l.toArray (Array.replicate l.toArray.size false) := by simpa using hready
  have inv1 := inv0.set hr0 (show 0 < n by omega)
  have hl1 : ∀ j, ((Array.replicate l.toArray.size false).setIfInBounds 0 true).getD j false = decide (j = 0) := fun j => by
    by_cases h : j = 0
    · subst h
      rw [show ((Array.replicate l.toArray.size false).setIfInBounds 0 true).getD 0 false = true by simp; omega]; rfl
    · rw [getD_set_ne false (Ne.symm h), getD_replicate_false]; simp [h]
  have h := flow_run1 (W := W) (a0 := a0) (A := A) (bv := fun g => .slice (some ⟨g, 0, none⟩) k k) (B := fun g w => W.heap.size ≤ g ∧ w.heap[g]? = some (.cells cs e (0, 0))) (Q := Q) hB hob hq
    (fun w hw => ⟨_, hb w, ⟨hw.size, heap_alloc_new w _⟩, (Below.refl _ _).alloc (Nat.le_refl _) _⟩)
    (fun g w w' h hw => ⟨h.1, (hw.block g (Array.getElem?_eq_some_iff.1 h.2).1).trans h.2⟩)
    (fun g w hw h => ht g w hw h.1 h.2) (n - 1) ((List.range n).erase 0) ((Array.replicate l.toArray.size false).setIfInBounds 0 true) (a0.put o0.dst (a0.eval x0)) { W with drawn := W.drawn + 1 } 0 (by rw [List.length_erase_of_mem (List.mem_range.2 (by omega))]; simp) (List.nodup_range.erase _)
    (fun i => by
      rw [List.nodup_range.mem_erase_iff, List.mem_range, hl1 i]
      simp; omega)
    ⟨inv1, ⟨rfl, rfl, rfl, Nat.le_refl _, fun _ _ => rfl⟩, by rw [put_size], by rw [put_defers], ?_, ?_, ?_, ?_⟩ (by rw [hl1]; rfl)
  · rw [show n - 1 + (l.toArray.size - n) = m by omega] at h
    rw [hm2] at h
    exact h
  · intro j oj t hj hoj hd hjb
    rw [hl1 j, put_get]
    by_cases hj0 : j = 0
    · subst hj0
      rw [h0A] at hoj; cases hoj
      rw [if_pos hd, if_pos (by simp)]
      rw [h0d] at hd; cases hd
      exact hA0.symm
    · rw [if_neg (fun h => Region.flowPair_dst (hpair 0 (by omega) j hj) h0A hoj (Ne.symm hj0) h hd)]
      simp [hj0]
  · intro t hd
    rw [hl1 b, if_neg (by simp; omega), put_get, if_neg (fun h => Region.flowPair_dst (hpair 0 (by omega) b hbn) h0A (by rw [hget]; exact hob) (by omega) h hd)]
  · intro t h
    rw [put_get, if_neg (h 0 o0 (by omega) h0A)]
  · intro h
    rw [hl1 b] at h
    simp at h; omega
end
end Go
/- The network of a book: its arcs; settle's code in pieces; its first loop. -/
namespace Go.Proofs.YtflchbejjofppaaGreatDoor
open Go Go.Proofs Go.RowKit
def tkAc (t : Tk) : Ac := ⟨(t.fr + 1).toNat, (t.to + 1).toNat, t.m.lo, t.m.hi, t.m.lo⟩
def stAc (p : Nat) (r : Rg) : Ac := ⟨p + 1, 0, r.lo, r.hi, r.lo⟩
def stTo (st : List Rg) (k : Nat) : List Ac := (List.range k).map fun p => stAc p (st.getD p default)
theorem stTo_succ (st : List Rg) (k : Nat) (h : k < st.length) : stTo st (k + 1) = stTo st k ++ [stAc k st[k]] := by
  unfold stTo; rw [List.range_succ, List.map_append]; simp [List.getD_eq_getElem?_getD, h]
def arcsOf (b : Bk) : List Ac := b.ts.map tkAc ++ stTo b.st b.st.length
theorem Tryz.info106 : (Tryz.prog.info? 92).map (fun i => (i.zero, i.size, i.bytes)) = some (some (.agg #[.int .i64 0, .int .i64 0, .int .i64 0, .int .i64 0, .int .i64 0]), 5, 40) := by kernel_rfl
theorem Ac.encW_one (x : Ac) : ∀ u ∈ x.encW, u.oneCell' = true := by simp [Ac.encW, Value.oneCell']
structure OkBk (b : Bk) : Prop where
  st32 : b.st.length ≤ 32
  ts128 : b.ts.length ≤ 128
  st : ∀ r ∈ b.st, -999999999 ≤ r.lo ∧ r.lo ≤ r.hi ∧ r.hi ≤ 999999999
  tk : ∀ t ∈ b.ts, -1 ≤ t.fr ∧ t.fr < b.st.length ∧ -1 ≤ t.to ∧ t.to < b.st.length ∧ t.fr ≠ t.to ∧ 0 ≤ t.m.lo ∧ t.m.lo ≤ t.m.hi ∧ t.m.hi ≤ 999999999
theorem okBk_of {b : Bk} (h : ckBook b = 0) : OkBk b := by
  obtain ⟨h1, h2, h3, h4⟩ := (ckBook_ok b).1 h
  refine ⟨h1, h3, fun r hr => ckRange_ok.1 (h2 r hr), fun t ht => ?_⟩
  obtain ⟨i, hi⟩ := List.mem_iff_getElem?.1 ht
  obtain ⟨_, _, p1, p2, p3, p4⟩ := ckTk_ok (h4 i t hi)
  have h5 := ckMass_ok.1 p4
  simp only [badPl, Bool.or_eq_false_iff, decide_eq_false_iff_not] at p1 p2
  exact ⟨by omega, by omega, by omega, by omega, p3, h5⟩
def fr72 (N : Nat) (s9 s10 s11 s14 s15 : Value) (z : Nat → Value) : List Value := [z 0, .pointer (some ⟨N, 0, none⟩), .pointer none, .bool false, .pointer (some ⟨N + 1, 0, none⟩), z 5, z 6, z 7, z 8, s9, s10, s11, z 12, z 13, s14, s15, z 16, z 17, z 18, z 19, z 20, z 21, z 22, z 23, z 24, z 25, z 26, z 27, z 28, z 29, z 30, z 31, z 32, z 33, z 34, z 35, z 36, z 37, z 38, z 39, z 40, z 41, z 42, z 43, z 44, z 45, z 46, z 47, z 48, z 49, z 50, z 51, z 52, z 53, z 54, z 55, z 56, z 57, z 58, z 59, z 60, z 61, z 62, z 63, z 64, z 65, z 66, z 67, z 68, z 69, z 70, z 71, z 72, z 73, z 74, z 75, z 76, z 77, z 78, z 79, z 80, z 81, z 82, z 83, z 84, z 85, z 86, z 87, z 88, z 89, z 90, z 91, z 92, z 93, z 94, z 95, z 96, z 97, z 98, z 99, z 100, z 101, z 102, z 103, z 104, z 105, z 106, z 107, z 108, z 109, z 110, z 111, z 112, z 113, z 114, z 115, z 116, z 117, z 118, z 119, z 120, z 121, z 122, z 123, z 124, z 125, z 126, z 127, z 128, z 129, z 130, z 131, z 132, z 133, z 134, z 135, z 136, z 137, z 138, z 139, z 140, z 141, z 142, z 143, z 144, z 145, z 146, z 147, z 148, z 149, z 150, z 151, z 152, z 153, z 154, z 155, z 156, z 157, z 158, z 159, z 160, z 161, z 162, z 163, z 164, z 165, z 166, z 167, z 168, z 169, z 170, z 171, z 172, z 173, z 174, z 175, z 176, z 177, z 178, z 179, z 180, z 181, z 182, z 183, z 184, z 185, z 186, z 187, z 188, z 189, z 190, z 191, z 192]
theorem fr72_of (N : Nat) (s9 s10 s11 s14 s15 : Value) (L : List Value) (hL : L.length = 193) (h1 : L[1]? = some (.pointer (some ⟨N, 0, none⟩))) (h2 : L[2]? = some (.pointer none)) (h3 : L[3]? = some (.bool false)) (h4 : L[4]? = some (.pointer (some ⟨N + 1, 0, none⟩))) (h9 : L[9]? = some (s9)) (h10 : L[10]? = some (s10)) (h11 : L[11]? = some (s11)) (h14 : L[14]? = some (s14)) (h15 : L[15]? = some (s15)) : ∃ z, L = fr72 N s9 s10 s11 s14 s15 z := by
  refine ⟨fun i => L.getD i undef, ?_⟩
  unfold fr72
  have e := list_range L 193 hL
  have e1 : L.getD 1 undef = .pointer (some ⟨N, 0, none⟩) := by rw [List.getD_eq_getElem?_getD, h1]; rfl
  have e2 : L.getD 2 undef = .pointer none := by rw [List.getD_eq_getElem?_getD, h2]; rfl
  have e3 : L.getD 3 undef = .bool false := by rw [List.getD_eq_getElem?_getD, h3]; rfl
  have e4 : L.getD 4 undef = .pointer (some ⟨N + 1, 0, none⟩) := by rw [List.getD_eq_getElem?_getD, h4]; rfl
  have e9 : L.getD 9 undef = s9 := by rw [List.getD_eq_getElem?_getD, h9]; rfl
  have e10 : L.getD 10 undef = s10 := by rw [List.getD_eq_getElem?_getD, h10]; rfl
  have e11 : L.getD 11 undef = s11 := by rw [List.getD_eq_getElem?_getD, h11]; rfl
  have e14 : L.getD 14 undef = s14 := by rw [List.getD_eq_getElem?_getD, h14]; rfl
  have e15 : L.getD 15 undef = s15 := by rw [List.getD_eq_getElem?_getD, h15]; rfl
  rw [← e1, ← e2, ← e3, ← e4, ← e9, ← e10, ← e11, ← e14, ← e15]
  exact e
theorem fr72_act (N : Nat) (s9 s10 s11 s14 s15 : Value) (A : Act) (ds : List Deferred) (hds : A.defers = ds) (hL : A.tmps.size = 193) (h1 : A.tmps[1]? = some (.pointer (some ⟨N, 0, none⟩))) (h2 : A.tmps[2]? = some (.pointer none)) (h3 : A.tmps[3]? = some (.bool false)) (h4 : A.tmps[4]? = some (.pointer (some ⟨N + 1, 0, none⟩))) (h9 : A.tmps[9]? = some (s9)) (h10 : A.tmps[10]? = some (s10)) (h11 : A.tmps[11]? = some (s11)) (h14 : A.tmps[14]? = some (s14)) (h15 : A.tmps[15]? = some (s15)) : ∃ z, A = { tmps := (fr72 N s9 s10 s11 s14 s15 z).toArray, defers := ds } := by
  obtain ⟨z, e⟩ := fr72_of N s9 s10 s11 s14 s15 A.tmps.toList (by rw [Array.length_toList]; exact hL) (by rw [Array.getElem?_toList]; exact h1) (by rw [Array.getElem?_toList]; exact h2) (by rw [Array.getElem?_toList]; exact h3) (by rw [Array.getElem?_toList]; exact h4) (by rw [Array.getElem?_toList]; exact h9) (by rw [Array.getElem?_toList]; exact h10) (by rw [Array.getElem?_toList]; exact h11) (by rw [Array.getElem?_toList]; exact h14) (by rw [Array.getElem?_toList]; exact h15)
  exact ⟨z, by cases A; subst hds; dsimp only at e ⊢; rw [← e]⟩
noncomputable def c72 : Code := Tryz.f36.body.getD .skip
noncomputable def p72a : Code := codeL (codeR (codeR c72))
noncomputable def p72b : Code := codeL (codeR (codeR (codeR c72)))
noncomputable def q72 : Code := codeR (codeR (codeR (codeR c72)))
theorem c72_eq : c72 = .seq (codeL c72) (.seq (codeL (codeR c72)) (.seq p72a (.seq p72b q72))) := rfl
structure SetW (w W : World) (N : Nat) (v1 v2 v : Value) (b : Bk) (l : List Ac) : Prop where
  hN : N = w.heap.size
  book : BkR w w.heap.size v1 v2 b
  box : Box W N 25 [v1, v2]
  net : NetR W N (N + 1) v l b.ts.length b.st.length (List.replicate 36 false)
  ne : v.ownBlock ≠ some N
  below : Below N w W
theorem SetW.later {w W W' : World} {N : Nat} {v1 v2 v : Value} {b : Bk} {l : List Ac} (h : SetW w W N v1 v2 v b l) (hb : Below W.heap.size W W') : SetW w W' N v1 v2 v b l :=
  ⟨h.hN, h.book, h.box.later hb, h.net.later hb, h.ne, h.below.trans (hb.mono (by rw [h.hN]; rw [h.hN] at h; exact h.below.size))⟩
theorem Own.other_type {α : Type} {f : α → List Value} {sz : Nat} {e e' : TypeId} {w : World} {base : Nat} {v : Value} {l : List α} (h : Own f sz e w base v l) {k : Nat} {vs : List Value} (hb : Box w k e' vs) (hne : e' ≠ e) : v.ownBlock ≠ some k := fun he => by
  rcases h.2 with ⟨rfl, _⟩ | ⟨g, cap, cur, rfl, _, hg, _⟩
  · simp [Value.ownBlock] at he
  · obtain rfl : g = k := by simpa [Value.ownBlock] using he
    rw [show w.heap[g]? = _ from hb] at hg
    cases hg
    exact hne rfl
theorem SetW.pushed {w W0 w2 w' : World} {N : Nat} {v1 v2 v v' : Value} {b : Bk} {l l' : List Ac} (h : SetW w W0 N v1 v2 v b l) (hb : Below W0.heap.size W0 w2) (hg : w2.grownBy w' v.ownBlock) (hown : Own Ac.encW 5 92 w' N v' l') :
    SetW w (w'.setCell ⟨N + 1, 0, none⟩ v') N v1 v2 v' b l' := by
  have h2 := h.later hb
  have hbx := h2.box.grown hg (Ne.symm h2.ne)
  have hnb := h2.net.box.grown hg (Ne.symm h2.net.ne)
  have n1 := hown.other_type hbx (by decide)
  have n2 := hown.other_type hnb (by decide)
  refine ⟨h.hN, h.book, hbx.other _ (by dsimp only; omega), ⟨hnb.set 0 v', hown.other _ n2, n2, h.net.n36⟩, n1, ?_⟩
  have hN := h2.box.lt
  refine (h2.below.grown hg (by omega) fun k hk => ?_).setCell (by dsimp only; omega) _
  exact (World.ownsRow.lt h2.net.own k hk).1
set_option maxRecDepth 100000 in
set_option maxHeartbeats 1000000 in
theorem p72a_walk (w W : World) (N : Nat) (v1 v2 : Value) (b : Bk) (hok : OkBk b) (s9 s10 s11 s14 s15 : Value) (z : Nat → Value) (hw : SetW w W N v1 v2 (.slice none 0 0) b []) :
    p72a.wp Tryz.prog (fun e a W' => e = .normal ∧ (∃ z', a = { tmps := (fr72 N s9 s10 s11 s14 s15 z').toArray, defers := [] }) ∧ ∃ v, SetW w W' N v1 v2 v b (b.ts.map tkAc)) { tmps := (fr72 N s9 s10 s11 s14 s15 z).toArray, defers := [] } W := by
  obtain ⟨Q, hQ⟩ : ∃ Q : Exit → Act → World → Prop, (fun (e : Exit) (a : Act) (W' : World) => e = Exit.normal ∧ (∃ z', a = ({ tmps := (fr72 N s9 s10 s11 s14 s15 z').toArray, defers := [] } : Act)) ∧ ∃ v, SetW w W' N v1 v2 v b (b.ts.map tkAc)) = Q := ⟨_, rfl⟩
  rw [hQ]
  have HQ := Lib.hid hQ
  clear hQ
  have HOK := Lib.hid hok
  have HW := Lib.hid hw
  obtain ⟨⟨a1, n1, hv1, hl1, hA1⟩, ⟨a2, n2, hv2, hl2, hA2⟩, hids⟩ := hw.book
  subst hv1 hv2
  have d0 := hw.box.cell 0
  have d1 := hw.box.cell 1
  have dz := hw.box.lt
  simp only [List.getElem?_cons_zero, List.getElem?_cons_succ] at d0 d1
  have HA1 := Lib.hid hA1
  clear hA1
  have HA2 := Lib.hid hA2
  clear hA2
  have HIDS := Lib.hid hids
  clear hids
  have h128 := HOK.out.ts128
  clear hw hok
  simp only [p72a, c72, Tryz.f36, Option.getD, codeL, codeR, fr72]
  go_wp2_with fail
  go_loopw [30] (fun i wr => ∃ (k : Nat) (v : Value), k ≤ b.ts.length ∧ i = .int .i64 k ∧ SetW w wr N (.slice a1 b.st.length n1) (.slice a2 b.ts.length n2) v b ((b.ts.take k).map tkAc)) (fun i _ => b.ts.length - (intOf i).toNat)
  case atStart => exact ⟨0, _, by omega, rfl, HW.out⟩
  case round =>
    clear HW d0 d1 dz
    obtain ⟨k, v, hk, rfl, hw⟩ := hrel
    by_cases hlt : k < b.ts.length
    · obtain ⟨bb, off, rfl, hbb, hcells⟩ := HA2.out (by omega)
      have hbe : Below w.heap.size w wr := by rw [← hw.hN]; exact hw.below
      obtain ⟨e0, e1, e2, e3, e4⟩ := ((hcells k hlt).below hbe hbb).c5
      clear hcells HA2 hbe
      obtain ⟨m1, m2, m3, m4, m5, m6, m7, m8⟩ := HOK.out.tk b.ts[k] (List.getElem_mem hlt)
      have HTK := Lib.hid (take_snoc b.ts k hlt)
      generalize b.ts[k] = t at *
      obtain ⟨tid, fr, to, lo, hi⟩ := t
      dsimp only at *
      have d0 := hw.box.cell 0
      have d1 := hw.box.cell 1
      have dz := hw.box.lt
      have c0 := hw.net.toA.c0
      have zn := hw.net.box.lt
      have fn := hw.net.box.frozen
      simp only [List.getElem?_cons_zero, List.getElem?_cons_succ] at d0 d1
      go_wp2_with fail
      have hwA := hw.later ((Below.refl _ _).alloc (Nat.le_refl _) (.cells #[.string tid, .int .i64 fr, .int .i64 to, .int .i64 lo, .int .i64 hi] 42))
      have hbt := Box.new wr #[.string tid, .int .i64 fr, .int .i64 to, .int .i64 lo, .int .i64 hi] 42
      have hown := hw.net.own.alloc (.cells #[.string tid, .int .i64 fr, .int .i64 to, .int .i64 lo, .int .i64 hi] 42)
      have hnet := hw.net.alloc (.cells #[.string tid, .int .i64 fr, .int .i64 to, .int .i64 lo, .int .i64 hi] 42)
      have hbox := hw.box.alloc (.cells #[.string tid, .int .i64 fr, .int .i64 to, .int .i64 lo, .int .i64 hi] 42)
      have hbel := hw.below.alloc (by omega) (.cells #[.string tid, .int .i64 fr, .int .i64 to, .int .i64 lo, .int .i64 hi] 42)
      have hsz : wr.heap.size < (wr.alloc (.cells #[.string tid, .int .i64 fr, .int .i64 to, .int .i64 lo, .int .i64 hi] 42)).heap.size := by simp
      have c0' := hnet.toA.c0
      have f0' := hnet.box.frozen
      have n1' := hw.ne
      have n2' := hw.net.ne
      have n3' : v.ownBlock ≠ some wr.heap.size := fun e => by have := (World.ownsRow.lt hw.net.own _ e).2; omega
      generalize wr.alloc (.cells #[.string tid, .int .i64 fr, .int .i64 to, .int .i64 lo, .int .i64 hi] 42) = W0 at *
      have t0 := hbt.cell 0
      have t1 := hbt.cell 1
      have t2 := hbt.cell 2
      have t3 := hbt.cell 3
      have t4 := hbt.cell 4
      simp only [List.getElem?_cons_zero, List.getElem?_cons_succ] at t0 t1 t2 t3 t4
      have HTK2 := Lib.hid hw
      have f0'' := f0' 0
      clear hw c0 d0 d1 fn e0 e1 e2 e3 e4 f0'
      generalize wr.heap.size = Bt at *
      have HNET := Lib.hid hnet
      have HWA := Lib.hid hwA
      clear hwA
      have HT := Lib.hid Tryz.underlying93
      have HI := Lib.hid Tryz.info106
      have hlk : ((b.ts.take k).map tkAc).length ≤ 1000000 := by have := List.length_take_le k b.ts; simp; omega
      have HLK := Lib.hid hlk
      have HCS := Lib.hid (show (#[Value.int .i64 lo, .int .i64 hi, .int .i64 (fr + 1), .int .i64 (to + 1), .int .i64 lo] : Array Value).toList = Ac.encW (tkAc ⟨tid, fr, to, ⟨lo, hi⟩⟩) by
        simp only [Ac.encW, tkAc]
        rw [Int.toNat_of_nonneg (by omega), Int.toNat_of_nonneg (by omega)])
      have HBOX := Lib.hid hbox
      have HBEL := Lib.hid hbel
      have zN1 : N + 1 < W0.heap.size := by omega
      clear hown hlk hnet hbox hbel
      refine wp_region_noPanic ?_
      refine wp_region_flow1 18 17 _ 1 92 _ _ _ (by decide) (by kernel_rfl) (by kernel_rfl) (by kernel_rfl) rfl rfl rfl rfl rfl (fun _ _ _ h => h.elim) ?_
      apply Exists.intro
      refine ⟨fun Y => ?_, ?_⟩
      simp only [headsOf, List.take_succ_cons, List.drop_succ_cons, List.take_zero, List.drop_zero, Nat.reduceSub, List.cons_append, List.nil_append]
      repeat go_big_quiet_step (fail)
      exact wpQuiet_nil rfl
      apply Exists.intro
      refine ⟨fun w => ?_, fun g w2 hb2 hg2 hc2 => ?_⟩
      go_simp
      first | rfl | (go_ints; rfl)
      have HH := Lib.hid hb2
      have hnet2 := HNET.out.later hb2
      have q0 := hnet2.toA.c0
      have q1 := hnet2.box.frozen 0
      have q2 := hnet2.box.lt
      simp only [Act.put, List.setIfInBounds_toArray, List.set_cons_succ, List.set_cons_zero, List.drop_succ_cons, List.drop_zero]
      have hbase : N ≤ w2.heap.size := by omega
      have HBASE := Lib.hid hbase
      go_wp2_with (at_builtin; refine wpList_pushB Ac.encW 5 40 93 92 _ HT.out HI.out rfl (by decide) (by decide) Ac.encW_len Ac.encW_one _ (tkAc ⟨tid, fr, to, ⟨lo, hi⟩⟩) N w2 g _ _ hc2 HCS.out _ hnet2.own HBASE.out HLK.out rfl _ _ rfl rfl rfl ?_; intro v' w' hown' hg'; obtain ⟨a', cap', rfl⟩ := hown'.shape; have HOW := Lib.hid hown'; have HGR := Lib.hid hg'; have hbn := hnet2.box.grown hg' (Ne.symm n2'); have r0 := hbn.cell 0; have r1 := hbn.frozen 0; have r2 := hbn.lt; simp only [netCells, List.getElem?_cons_zero] at r0; clear hown' hg')
      refine NoPanic.normal ?_
      go_wp2_with fail
      go_roundw
      case rel =>
        refine ⟨k + 1, .slice a' (k + 1) cap', by omega, by go_num, ?_⟩
        rw [HTK.out, List.map_append]
        have hp := HWA.out.pushed HH.out HGR.out HOW.out
        rw [show ((b.ts.take k).map tkAc ++ [tkAc ⟨tid, fr, to, ⟨lo, hi⟩⟩]).length = k + 1 by simp; omega] at hp
        exact hp
      case measure => simp [intOf]; omega
    · obtain rfl : b.ts.length = k := by omega
      go_wp2_with fail
      rw [← HQ.out]
      refine ⟨rfl, ?_, v, by rw [List.take_length] at hw; exact hw⟩
      apply fr72_act <;> rfl
end Go.Proofs.YtflchbejjofppaaGreatDoor
/- Walks: settle's second loop. -/
namespace Go.Proofs.YtflchbejjofppaaGreatDoor
open Go Go.Proofs Go.RowKit
set_option maxRecDepth 100000 in
set_option maxHeartbeats 1000000 in
theorem p72b_walk (w W : World) (N : Nat) (v1 v2 v0 : Value) (b : Bk) (hok : OkBk b) (s9 s10 s11 s14 s15 : Value) (z : Nat → Value) (hw : SetW w W N v1 v2 v0 b (b.ts.map tkAc)) :
    p72b.wp Tryz.prog (fun (e : Exit) (a : Act) (W' : World) => e = .normal ∧ (∃ z', a = { tmps := (fr72 N s9 s10 s11 s14 s15 z').toArray, defers := [] }) ∧ ∃ v, SetW w W' N v1 v2 v b (arcsOf b)) { tmps := (fr72 N s9 s10 s11 s14 s15 z).toArray, defers := [] } W := by
  obtain ⟨Q, hQ⟩ : ∃ Q : Exit → Act → World → Prop, (fun (e : Exit) (a : Act) (W' : World) => e = Exit.normal ∧ (∃ z', a = ({ tmps := (fr72 N s9 s10 s11 s14 s15 z').toArray, defers := [] } : Act)) ∧ ∃ v, SetW w W' N v1 v2 v b (arcsOf b)) = Q := ⟨_, rfl⟩
  rw [hQ]
  have HQ := Lib.hid hQ
  clear hQ
  have HOK := Lib.hid hok
  have HW := Lib.hid hw
  obtain ⟨⟨a1, n1, hv1, hl1, hA1⟩, ⟨a2, n2, hv2, hl2, hA2⟩, hids⟩ := hw.book
  subst hv1 hv2
  have d0 := hw.box.cell 0
  have d1 := hw.box.cell 1
  have dz := hw.box.lt
  simp only [List.getElem?_cons_zero, List.getElem?_cons_succ] at d0 d1
  have HA1 := Lib.hid hA1
  clear hA1
  clear hA2 hids
  have h32 := HOK.out.st32
  have h128 := HOK.out.ts128
  clear hw hok
  simp only [p72b, c72, Tryz.f36, Option.getD, codeL, codeR, fr72]
  go_wp2_with fail
  go_loopw [59] (fun i wr => ∃ (k : Nat) (v : Value), k ≤ b.st.length ∧ i = .int .i64 k ∧ SetW w wr N (.slice a1 b.st.length n1) (.slice a2 b.ts.length n2) v b (b.ts.map tkAc ++ stTo b.st k)) (fun i _ => b.st.length - (intOf i).toNat)
  case atStart => exact ⟨0, _, by omega, rfl, by have h := HW.out; simp only [stTo, List.range_zero, List.map_nil, List.append_nil]; exact h⟩
  case round =>
    clear HW d0 d1 dz
    obtain ⟨k, v, hk, rfl, hw⟩ := hrel
    by_cases hlt : k < b.st.length
    · obtain ⟨bb, off, rfl, hbb, hcells⟩ := HA1.out (by omega)
      have hbe : Below w.heap.size w wr := by rw [← hw.hN]; exact hw.below
      obtain ⟨e0, e1⟩ := ((hcells k hlt).below hbe hbb).c2
      clear hcells HA1 hbe
      obtain ⟨m6, m7, m8⟩ := HOK.out.st b.st[k] (List.getElem_mem hlt)
      have HST := Lib.hid (stTo_succ b.st k hlt)
      generalize b.st[k] = r at *
      obtain ⟨lo, hi⟩ := r
      dsimp only at *
      have d0 := hw.box.cell 0
      have d1 := hw.box.cell 1
      have dz := hw.box.lt
      have zn := hw.net.box.lt
      simp only [List.getElem?_cons_zero, List.getElem?_cons_succ] at d0 d1
      go_wp2_with fail
      have hwA := hw.later ((Below.refl _ _).alloc (Nat.le_refl _) (.cells #[.int .i64 lo, .int .i64 hi] 34))
      have hbt := Box.new wr #[.int .i64 lo, .int .i64 hi] 34
      have hnet := hwA.net
      have hbel := hwA.below
      have hsz : wr.heap.size < (wr.alloc (.cells #[.int .i64 lo, .int .i64 hi] 34)).heap.size := by simp
      have c0' := hnet.toA.c0
      have n2' := hw.net.ne
      generalize wr.alloc (.cells #[.int .i64 lo, .int .i64 hi] 34) = W0 at *
      have t0 := hbt.cell 0
      have t1 := hbt.cell 1
      simp only [List.getElem?_cons_zero, List.getElem?_cons_succ] at t0 t1
      clear hw d0 d1 e0 e1
      generalize wr.heap.size = Bt at *
      have HNET := Lib.hid hnet
      have HWA := Lib.hid hwA
      have HT := Lib.hid Tryz.underlying93
      have HI := Lib.hid Tryz.info106
      have hlk : (b.ts.map tkAc ++ stTo b.st k).length ≤ 1000000 := by simp [stTo]; omega
      have HLK := Lib.hid hlk
      have HCS := Lib.hid (show (#[Value.int .i64 lo, .int .i64 hi, .int .i64 ((k : Int) + 1), .int .i64 0, .int .i64 lo] : Array Value).toList = Ac.encW (stAc k ⟨lo, hi⟩) from rfl)
      have zN1 : N + 1 < W0.heap.size := by omega
      clear hlk hnet hbel hwA
      refine wp_region_noPanic ?_
      refine wp_region_flow1 12 11 _ 1 92 _ _ _ (by decide) (by kernel_rfl) (by kernel_rfl) (by kernel_rfl) rfl rfl rfl rfl rfl (fun _ _ _ h => h.elim) ?_
      apply Exists.intro
      refine ⟨fun Y => ?_, ?_⟩
      simp only [headsOf, List.take_succ_cons, List.drop_succ_cons, List.take_zero, List.drop_zero, Nat.reduceSub, List.cons_append, List.nil_append]
      repeat go_big_quiet_step (fail)
      exact wpQuiet_nil rfl
      apply Exists.intro
      refine ⟨fun w => ?_, fun g w2 hb2 hg2 hc2 => ?_⟩
      go_simp
      first | rfl | (go_ints; rfl)
      have HH := Lib.hid hb2
      have hnet2 := HNET.out.later hb2
      have q0 := hnet2.toA.c0
      have q1 := hnet2.box.frozen 0
      have q2 := hnet2.box.lt
      simp only [Act.put, List.setIfInBounds_toArray, List.set_cons_succ, List.set_cons_zero, List.drop_succ_cons, List.drop_zero]
      have hbase : N ≤ w2.heap.size := by omega
      have HBASE := Lib.hid hbase
      go_wp2_with (at_builtin; refine wpList_pushB Ac.encW 5 40 93 92 _ HT.out HI.out rfl (by decide) (by decide) Ac.encW_len Ac.encW_one _ (stAc k ⟨lo, hi⟩) N w2 g _ _ hc2 HCS.out _ hnet2.own HBASE.out HLK.out rfl _ _ rfl rfl rfl ?_; intro v' w' hown' hg'; obtain ⟨a', cap', rfl⟩ := hown'.shape; have HOW := Lib.hid hown'; have HGR := Lib.hid hg'; have hbn := hnet2.box.grown hg' (Ne.symm n2'); have r0 := hbn.cell 0; have r1 := hbn.frozen 0; have r2 := hbn.lt; simp only [netCells, List.getElem?_cons_zero] at r0; clear hown' hg')
      refine NoPanic.normal ?_
      go_wp2_with fail
      go_roundw
      case rel =>
        refine ⟨k + 1, .slice a' (b.ts.length + ((stTo b.st k).length + 1)) cap', by omega, by go_num, ?_⟩
        rw [HST.out, ← List.append_assoc]
        have hp := HWA.out.pushed HH.out HGR.out HOW.out
        rw [show ((b.ts.map tkAc ++ stTo b.st k) ++ [stAc k ⟨lo, hi⟩]).length = b.ts.length + ((stTo b.st k).length + 1) by simp] at hp
        exact hp
      case measure => simp [intOf]; omega
    · obtain rfl : b.st.length = k := by omega
      go_wp2_with fail
      rw [← HQ.out]
      refine ⟨rfl, ?_, v, hw⟩
      apply fr72_act <;> rfl
end Go.Proofs.YtflchbejjofppaaGreatDoor
