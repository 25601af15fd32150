/- Lemmas on the way to the law TopChanges (part 19): Rp Rq Rs Gm -/
import Derived.Test.YtflchbejjofppaaGreatDoorTopChangesP18
import Derived.Maps.AppendAt
set_option linter.unusedVariables false
set_option linter.unusedSimpArgs false

/- A region that draws its order, each head operation told by a relation of its yield and the world. -/
namespace Go
open Go.RowKit
section
def Region.relB (ops : Array Oper) (n : Nat) : Bool :=
  Region.noSelect ops && decide (n < ops.size) && Region.sinkB .any ops n && Region.chainB .any ops n && Region.seqB .any ops (ops.size - n) n (Region.marked ops.size n) &&
  ((List.range n).all fun i => match ops[i]? with | some o => o.after.all fun e => !Region.binds .any e || decide (e.on < i) | none => true) &&
  ((List.range n).all fun i => (List.range n).all fun j => Region.flowPair ops i j) &&
  ((List.range n).all fun i => match ops[i]? with | some o => o.guard.isNone && o.dst.isSome | none => true)
def putsN (vs : Nat → Value) : Nat → Act → List Oper → Act
  | _, a, [] => a
  | k, a, o :: os => putsN vs (k + 1) (a.put o.dst (vs k)) os
theorem putsN_other (vs : Nat → Value) (t : Tmp) : ∀ (os : List Oper) (k : Nat) (a : Act), (∀ o ∈ os, o.dst ≠ some t) → (putsN vs k a os).tmps[t]? = a.tmps[t]?
  | [], _, _, _ => rfl
  | o :: os, k, a, h => by
    rw [putsN, putsN_other vs t os (k + 1) _ (fun o' ho' => h o' (List.mem_cons_of_mem _ ho')), put_get, if_neg (h o (by simp))]
theorem putsN_defers (vs : Nat → Value) : ∀ (os : List Oper) (k : Nat) (a : Act), (putsN vs k a os).defers = a.defers
  | [], _, _ => rfl
  | o :: os, k, a => by rw [putsN, putsN_defers vs os, put_defers]
theorem putsN_at (vs : Nat → Value) (t : Tmp) : ∀ (os : List Oper) (k : Nat) (a : Act) (j : Nat) (o : Oper), os.Pairwise (fun o o' => ∀ t, o.dst = some t → o'.dst ≠ some t) → os[j]? = some o → o.dst = some t →
    (putsN vs k a os).tmps[t]? = a.tmps[t]?.map (fun _ => vs (k + j))
  | [], _, _, j, _, _, h, _ => by simp at h
  | o1 :: os, k, a, 0, o, hp, h, hd => by
    obtain ⟨hp1, hp2⟩ := List.pairwise_cons.1 hp
    have e : o1 = o := by simpa using h
    subst e
    rw [putsN, putsN_other vs t os (k + 1) _ (fun o' ho' => hp1 o' ho' t hd), put_get, if_pos hd]; rfl
  | o1 :: os, k, a, j + 1, o, hp, h, hd => by
    obtain ⟨hp1, hp2⟩ := List.pairwise_cons.1 hp
    have h' : os[j]? = some o := by simpa using h
    rw [putsN, putsN_at vs t os (k + 1) _ j o hp2 h' hd, put_get, if_neg (fun e => hp1 o (List.mem_of_getElem? h') t e hd), show k + 1 + j = k + (j + 1) by omega]
structure RelFlow (ops : Array Oper) (n : Nat) (W : World) (a0 : Act) (R : Nat → Value → World → Prop) (vs : Nat → Value) (listed : Array Bool) (a : Act) (w : World) : Prop where
  inv : HeadInv .any ops n listed
  later : Below W.heap.size W w
  size : a.tmps.size = a0.tmps.size
  defers : a.defers = a0.defers
  slot : ∀ j o t, j < n → ops[j]? = some o → o.dst = some t → a.tmps[t]? = if listed.getD j false = true then a0.tmps[t]?.map (fun _ => vs j) else a0.tmps[t]?
  other : ∀ t, (∀ j o, j < n → ops[j]? = some o → o.dst ≠ some t) → a.tmps[t]? = a0.tmps[t]?
  rel : ∀ j, j < n → listed.getD j false = true → R j (vs j) w
def RelPost (W : World) (a0 : Act) (o : Oper) (Ri : Value → World → Prop) (e : Exit) (a : Act) (w : World) : Prop := e = .normal ∧ a.defers = a0.defers ∧ ∃ t v, o.dst = some t ∧ a.tmps[t]? = some v ∧ Below W.heap.size W w ∧ Ri v w
theorem RelPost.out {W : World} {a0 : Act} {o : Oper} {Ri : Value → World → Prop} : ¬ LetsOut (RelPost W a0 o Ri) := fun ⟨_, _, h⟩ => by cases h.1
theorem rel_op {P : Program} {Q : Exit → Act → World → Prop} {ops : Array Oper} {o : Oper} {i : Nat} (hi : ops[i]? = some o) (hg : o.guard = none) {t : Tmp} (hd : o.dst = some t) {Ri : Value → World → Prop} {a a' : Act} {w : World} {K : Act → World → Prop} (he : execOp a'.eval o = execOp a.eval o)
    (h : wpList P ops (RelPost w a' o Ri) [o] a' w) (hK : ∀ v w', Below w.heap.size w w' → Ri v w' → K (a.put o.dst v) w') : wpOp P ops Q i K a w := by
  have hwant : ∀ x, Region.wanted o x = true := fun x => by simp [Region.wanted, hg]
  unfold wpOp
  simp only [hi]
  rw [if_pos (hwant _)]
  unfold wpList at h
  rw [if_pos (hwant _)] at h
  rcases h with h | h
  rotate_left
  · exact absurd h.2 RelPost.out
  refine .inl ?_
  have hpost : ∀ v w', RelPost w a' o Ri .normal (a'.put o.dst v) w' → K (a.put o.dst v) w' := fun v w' hp => by
    obtain ⟨_, _, t', v', hd', hv', hb, hR⟩ := hp
    rw [hd] at hd'
    injection hd' with hd'
    subst hd'
    rw [put_get, if_pos hd] at hv'
    have e : v = v' := by
      cases hx : a'.tmps[t]? with
      | none => rw [hx] at hv'; cases hv'
      | some y => rw [hx] at hv'; injection hv'
    subst e
    exact hK v w' hb hR
  unfold Oper.wp at h ⊢
  rw [he] at h
  generalize (execOp a.eval o).run P w = r at *
  cases r with
  | ok x w' =>
    cases x with
    | value v => exact hpost v w' h
    | skip => exact hpost undef w' h
    | defer d =>
      exfalso
      obtain ⟨_, hdf, _⟩ := h
      rw [put_defers] at hdf
      have := congrArg List.length hdf
      simp at this
    | enter f args =>
      refine Calls.mono h ?_
      intro e w'' he
      cases e with
      | returned v => exact hpost v w'' he
      | panicked chain => cases he.1
      | outgrown => exact absurd he RelPost.out
    | row row args => exact Rows.mono h (fun v w'' he => hpost v w'' he)
    | _ => exact h.elim
  | halt x w' =>
    cases x with
    | panic v => cases h.1
    | _ => exact h.elim
variable {P : Program} {l : List Oper} {n : Nat} {W : World} {a0 : Act} {R : Nat → Value → World → Prop} {Q : Exit → Act → World → Prop}
theorem rel_run (hB : Region.relB l.toArray n = true)
    (hst : ∀ j v w w', R j v w → Below w.heap.size w w' → R j v w')
    (hq : ∀ i o, i < n → l[i]? = some o → ∀ (vs : Nat → Value) (w : World), Below W.heap.size W w → (∀ j, j < i → Region.blindTo l.toArray i j = false → R j (vs j) w) → wpList P l.toArray (RelPost w (putsN vs 0 a0 (l.take i)) o (R i)) [o] (putsN vs 0 a0 (l.take i)) w)
    (ht : ∀ (vs : Nat → Value) (w : World), Below W.heap.size W w → (∀ j, j < n → R j (vs j) w) → wpList P l.toArray Q (l.drop n) (putsN vs 0 a0 (l.take n)) w) :
    ∀ (f : Nat) (U : List Nat) (vs : Nat → Value) (listed : Array Bool) (a : Act) (w : World), U.length = f → U.Nodup → (∀ i, i ∈ U ↔ i < n ∧ listed.getD i false = false) →
      RelFlow l.toArray n W a0 R vs listed a w → wpAny P .any l.toArray Q (f + (l.toArray.size - n)) listed a w := by
  simp only [Region.relB, Bool.and_eq_true, decide_eq_true_eq, List.all_eq_true, List.mem_range] at hB
  obtain ⟨⟨⟨⟨⟨⟨⟨hsel, hn⟩, hsink⟩, hchain⟩, hseq⟩, hedge⟩, hpair⟩, hguard⟩ := hB
  have hn' : n ≤ l.length := by have h := hn; rw [List.size_toArray] at h; omega
  have hsz : l.toArray.size = l.length := by simp
  have hget : ∀ i : Nat, l.toArray[i]? = l[i]? := fun i => by simp
  have hselect := Region.noSelect_spec hsel
  have hpw : ∀ m, m ≤ n → (l.take m).Pairwise (fun o o' => ∀ t, o.dst = some t → o'.dst ≠ some t) := fun m hm => by
    rw [List.pairwise_iff_getElem]
    intro i j hi hj hij t ht
    rw [List.length_take] at hi hj
    rw [List.getElem_take] at ht ⊢
    exact Region.flowPair_dst (hpair i (by omega) j (by omega)) (by rw [hget]; exact List.getElem?_eq_getElem (by omega)) (by rw [hget]; exact List.getElem?_eq_getElem (by omega)) (fun e => by subst e; omega) ht
  have hputAt : ∀ (vs : Nat → Value) m, m ≤ n → ∀ j o t, j < m → l.toArray[j]? = some o → o.dst = some t → (putsN vs 0 a0 (l.take m)).tmps[t]? = a0.tmps[t]?.map (fun _ => vs j) := fun vs m hm j o t hj ho hd => by
    rw [putsN_at vs t (l.take m) 0 a0 j o (hpw m hm) (by rw [List.getElem?_take, if_pos hj, ← hget]; exact ho) hd, Nat.zero_add]
  have hputO : ∀ (vs : Nat → Value) m, m ≤ n → ∀ t, (∀ j o, j < n → l.toArray[j]? = some o → o.dst ≠ some t) → (putsN vs 0 a0 (l.take m)).tmps[t]? = a0.tmps[t]? := fun vs m hm t h =>
    putsN_other vs t _ 0 a0 fun o ho => by
      obtain ⟨q, hq'⟩ := List.mem_iff_getElem?.1 ho
      rw [List.getElem?_take] at hq'
      split at hq'
      · exact h q o (by omega) (by rw [hget]; exact hq')
      · cases hq'
  intro f
  induction f with
  | zero =>
    intro U vs listed a w hU _ hUm hF
    obtain rfl : U = [] := List.eq_nil_of_length_eq_zero hU
    have hall : ∀ i, i < n → listed.getD i false = true := fun i hi => by
      cases h : listed.getD i false with
      | true => rfl
      | false => have := (hUm i).2 ⟨hi, h⟩; simp at this
    have hl : listed = Region.marked l.toArray.size n := by
      apply Array.ext_getElem?
      intro i
      by_cases hi : i < l.toArray.size
      · have hil : i < listed.size := by rw [hF.inv.size]; exact hi
        have e2 : (Region.marked l.toArray.size n)[i]? = some (decide (i < n)) := by
          rw [List.size_toArray] at hi
          unfold Region.marked
          simp [hi]
        rw [e2, Array.getElem?_eq_getElem hil]
        by_cases hin : i < n
        · have := hall i hin
          simp [hil] at this
          simp [this, hin]
        · have := hF.inv.tail i (by omega) hi
          simp [hil] at this
          simp [this, hin]
      · rw [Array.getElem?_eq_none (by rw [hF.inv.size]; omega), Array.getElem?_eq_none (by rw [List.size_toArray] at hi; unfold Region.marked; simp; omega)]
    have ha : a = putsN vs 0 a0 (l.take n) := by
      have htm : a.tmps = (putsN vs 0 a0 (l.take n)).tmps := by
        apply Array.ext_getElem?
        intro t
        by_cases h : ∃ j o, j < n ∧ l.toArray[j]? = some o ∧ o.dst = some t
        · obtain ⟨j, o, h1, h2, h3⟩ := h
          rw [hF.slot j o t h1 h2 h3, if_pos (hall j h1), hputAt vs n (Nat.le_refl _) j o t h1 h2 h3]
        · have h' : ∀ j o, j < n → l.toArray[j]? = some o → o.dst ≠ some t := fun j o h1 h2 h3 => h ⟨j, o, h1, h2, h3⟩
          rw [hF.other t h', hputO vs n (Nat.le_refl _) t h']
      have hd : a.defers = (putsN vs 0 a0 (l.take n)).defers := by rw [putsN_defers, hF.defers]
      cases a; simp only at htm hd; cases hX : putsN vs 0 a0 (l.take n); rw [hX] at htm hd; simp only at htm hd; rw [htm, hd]
    rw [ha]
    have hdl : (l.drop n).length = l.toArray.size - n := by simp
    have := wpAny_of_seq (md := .any) (Q' := Q) (ops := l.toArray) (l.drop n) n listed (putsN vs 0 a0 (l.take n)) w (fun j => by simp [List.getElem?_drop]) (by rw [hdl, hl]; exact hseq) (ht vs w hF.later (fun j hj => hF.rel j hj (hall j hj)))
    rw [hdl] at this
    rwa [Nat.zero_add]
  | succ f ih =>
    intro U vs listed a w hU hnd hUm hF
    obtain ⟨i0, hi0, hleast⟩ := exists_leastM U (fun e => by rw [e] at hU; simp at hU)
    obtain ⟨hi0n, hi0u⟩ := (hUm i0).1 hi0
    have hin : ∀ i, i < n → i < listed.size := fun i hi => by rw [hF.inv.size]; omega
    have hready : i0 ∈ Region.ready .any l.toArray listed := by
      have hlt : i0 < l.toArray.size := by omega
      refine mem_ready.2 ⟨getD_in (hin _ hi0n) hi0u, l.toArray[i0], Array.getElem?_eq_getElem hlt, fun e he hbd => ?_⟩
      have h1 := hedge i0 hi0n
      rw [Array.getElem?_eq_getElem hlt] at h1
      simp only [Array.all_eq_true_iff_forall_mem] at h1
      have h2 := h1 e he
      simp only [hbd, Bool.not_true, Bool.false_or, decide_eq_true_eq] at h2
      cases h : listed.getD e.on false with
      | true => rfl
      | false =>
        have := hleast e.on ((hUm e.on).2 ⟨by omega, h⟩)
        omega
    rw [show f + 1 + (l.toArray.size - n) = (f + (l.toArray.size - n)) + 1 by omega]
    refine ⟨fun h => (by rw [h] at hready; cases hready), fun i hi => ?_⟩
    obtain ⟨hiu, o, ho, hdep⟩ := mem_ready.1 hi
    have hilt : i < n := Nat.lt_of_not_le fun h => tail_waits hsink hchain hn hF.inv _ i0 rfl hi0n (getD_in (hin _ hi0n) hi0u) i h hi
    have hiU : i ∈ U := (hUm i).2 ⟨hilt, getD_both hiu⟩
    have hinv := hF.inv.set hi hilt
    have hlist : ∀ j, (listed.setIfInBounds i true).getD j false = if j = i then true else listed.getD j false := fun j => by
      by_cases h : j = i
      · subst h; rw [if_pos rfl]; simp [hin j hilt]
      · rw [if_neg h, getD_set_ne false (Ne.symm h)]
    have hUm' : ∀ j, j ∈ U.erase i ↔ j < n ∧ (listed.setIfInBounds i true).getD j false = false := fun j => by
      rw [hnd.mem_erase_iff, hUm j, hlist j]
      by_cases h : j = i
      · simp [h]
      · simp [h]
    have hlen' : (U.erase i).length = f := by rw [List.length_erase_of_mem hiU]; omega
    have hnd' := hnd.erase i
    have hseen : ∀ t ∈ o.looksAt l.toArray, ∀ j oj, j < n → l.toArray[j]? = some oj → oj.dst = some t → i ≠ j ∧ j < i ∧ listed.getD j false = true := by
      intro t ht j oj hj hoj hd
      have hne : i ≠ j := fun e => by
        subst e
        rw [ho] at hoj; cases hoj
        exact Region.flowPair_self (hpair i hilt i hilt) ho hd ht
      have h1 := Region.flowPair_looks (hpair i hilt j hj) ho hoj hne hd ht
      obtain ⟨o', ho', e, he, hbd, hon⟩ := Region.waitsFor_spec h1.2
      rw [ho] at ho'; cases ho'
      have := hdep e he hbd
      rw [hon] at this
      exact ⟨hne, h1.1, this⟩
    have hgd := hguard i hilt
    rw [ho] at hgd
    simp only [Bool.and_eq_true, Option.isNone_iff_eq_none] at hgd
    obtain ⟨hg, hds⟩ := hgd
    obtain ⟨t0, hd0⟩ := Option.isSome_iff_exists.1 hds
    have hex : execOp (putsN vs 0 a0 (l.take i)).eval o = execOp a.eval o := (seen_alike (ops := l.toArray) (fun cs bb => hselect i o cs bb ho) fun t htl => by
      by_cases h : ∃ j o, j < n ∧ l.toArray[j]? = some o ∧ o.dst = some t
      · obtain ⟨j, oj, h1, h2, h3⟩ := h
        obtain ⟨k1, k2, k3⟩ := hseen t htl j oj h1 h2 h3
        rw [hputAt vs i (by omega) j oj t k2 h2 h3, hF.slot j oj t h1 h2 h3, if_pos k3]
      · have h' : ∀ j o, j < n → l.toArray[j]? = some o → o.dst ≠ some t := fun j o h1 h2 h3 => h ⟨j, o, h1, h2, h3⟩
        rw [hputO vs i (by omega) t h', hF.other t h']).1
    refine rel_op ho hg hd0 hex (hq i o hilt (by rw [← hget]; exact ho) vs w hF.later (fun j hj hbl => ?_)) (fun v w' hb hR => ?_)
    · refine hF.rel j (by omega) ?_
      have hjl : j < l.toArray.size := by omega
      unfold Region.blindTo at hbl
      rw [ho, Array.getElem?_eq_getElem hjl] at hbl
      simp only at hbl
      split at hbl
      · rename_i d hdj
        have hmem : d ∈ o.looksAt l.toArray := by simpa using hbl
        exact (hseen d hmem j _ (by omega) (Array.getElem?_eq_getElem hjl) hdj).2.2
      · cases hbl
    · refine ih (U.erase i) (fun j => if j = i then v else vs j) _ _ _ hlen' hnd' hUm' ⟨hinv, hF.later.trans (hb.mono hF.later.size), by rw [put_size, hF.size], by rw [put_defers, hF.defers], ?_, ?_, ?_⟩
      · intro j oj t hj hoj hd
        rw [put_get, hlist j]
        by_cases hji : j = i
        · subst hji
          rw [ho] at hoj; cases hoj
          rw [if_pos hd, if_pos rfl, if_pos rfl, if_pos rfl, hF.slot j o t hj ho hd, if_neg (by rw [getD_both hiu]; simp)]
        · have hne : o.dst ≠ some t := fun h => Region.flowPair_dst (hpair i hilt j hj) ho hoj (Ne.symm hji) h hd
          rw [if_neg hne, if_neg hji, if_neg hji, hF.slot j oj t hj hoj hd]
      · intro t h
        rw [put_get, if_neg (h i o hilt ho), hF.other t h]
      · intro j hj hlj
        rw [hlist j] at hlj
        by_cases hji : j = i
        · subst hji
          rw [if_pos rfl]; exact hR
        · rw [if_neg hji] at hlj ⊢
          exact hst j _ _ _ (hF.rel j hj hlj) hb
def relAll (F : Nat → Oper → Prop) : Nat → List Oper → Prop
  | _, [] => True
  | k, o :: os => F k o ∧ relAll F (k + 1) os
theorem relAll.get {F : Nat → Oper → Prop} : ∀ (os : List Oper) (k : Nat), relAll F k os → ∀ i o, os[i]? = some o → F (k + i) o
  | [], _, _, i, o, h => by simp at h
  | o1 :: os, k, h, 0, o, ho => by
    have e : o1 = o := by simpa using ho
    subst e; exact h.1
  | o1 :: os, k, h, i + 1, o, ho => by
    have := relAll.get os (k + 1) h.2 i o (by simpa using ho)
    rwa [show k + 1 + i = k + (i + 1) by omega] at this
theorem wp_region_rel {id : Nat} (n : Nat) (R : Nat → Value → World → Prop) (hm : P.follows .mixedOrders = true) (hB : Region.relB l.toArray n = true)
    (hst : ∀ j v w w', R j v w → Below w.heap.size w w' → R j v w')
    (hq : relAll (fun i o => ∀ (vs : Nat → Value) (w : World), Below W.heap.size W w → (∀ j, j < i → Region.blindTo l.toArray i j = false → R j (vs j) w) → wpList P l.toArray (RelPost w (putsN vs 0 a0 (l.take i)) o (R i)) [o] (putsN vs 0 a0 (l.take i)) w) 0 (l.take n))
    (ht : ∀ (vs : Nat → Value) (w : World), Below W.heap.size W w → (∀ j, j < n → R j (vs j) w) → wpList P l.toArray Q (l.drop n) (putsN vs 0 a0 (l.take n)) w) :
    (Code.region id l.toArray true).wp P Q a0 W := by
  refine wp_region_any hm ?_
  have hB' := hB
  simp only [Region.relB, Bool.and_eq_true, decide_eq_true_eq] at hB'
  have hn := hB'.1.1.1.1.1.1.2
  have inv0 : HeadInv .any l.toArray n (Array.replicate l.toArray.size false) :=
    ⟨by simp, fun j oj _ hl => (by rw [getD_replicate_false] at hl; cases hl), fun t _ ht => getD_in (by simpa using ht) (getD_replicate_false _ _)⟩
  have h := rel_run (W := W) (a0 := a0) (R := R) (Q := Q) hB hst
    (fun i o hi ho => by
      have := relAll.get _ 0 hq i o (by rw [List.getElem?_take, if_pos hi]; exact ho)
      rwa [Nat.zero_add] at this) ht n (List.range n) (fun _ => undef) (Array.replicate l.toArray.size false) a0 { W with drawn := W.drawn + 1 } (by simp) List.nodup_range (fun i => by rw [List.mem_range]; exact ⟨fun h => ⟨h, getD_replicate_false _ _⟩, fun h => h.1⟩)
    ⟨inv0, ⟨rfl, rfl, rfl, Nat.le_refl _, fun _ _ => rfl⟩, rfl, rfl, fun j o t _ _ _ => by rw [getD_replicate_false]; rfl, fun t _ => rfl, fun j _ h => by rw [getD_replicate_false] at h; cases h⟩
  rwa [show n + (l.toArray.size - n) = l.toArray.size by omega] at h
end
end Go
/- A region that draws its order, its head operations bound by one invariant over what is done, the yields and the world. -/
namespace Go
open Go.RowKit
section
structure JoinFlow (ops : Array Oper) (n : Nat) (a0 : Act) (J : (Nat → Bool) → (Nat → Value) → World → Prop) (vs : Nat → Value) (listed : Array Bool) (a : Act) (w : World) : Prop where
  inv : HeadInv .any ops n listed
  size : a.tmps.size = a0.tmps.size
  defers : a.defers = a0.defers
  slot : ∀ j o t, j < n → ops[j]? = some o → o.dst = some t → a.tmps[t]? = if listed.getD j false = true then a0.tmps[t]?.map (fun _ => vs j) else a0.tmps[t]?
  other : ∀ t, (∀ j o, j < n → ops[j]? = some o → o.dst ≠ some t) → a.tmps[t]? = a0.tmps[t]?
  join : J (fun j => listed.getD j false) vs w
def JoinPost (a0 : Act) (o : Oper) (K : Value → World → Prop) (e : Exit) (a : Act) (w : World) : Prop := e = .normal ∧ a.defers = a0.defers ∧ ∃ t v, o.dst = some t ∧ a.tmps[t]? = some v ∧ K v w
theorem JoinPost.out {a0 : Act} {o : Oper} {K : Value → World → Prop} : ¬ LetsOut (JoinPost a0 o K) := fun ⟨_, _, h⟩ => by cases h.1
def setF {α : Type} (f : Nat → α) (i : Nat) (x : α) : Nat → α := fun j => if j = i then x else f j
theorem setF_same {α : Type} (f : Nat → α) (i : Nat) (x : α) : setF f i x i = x := if_pos rfl
theorem setF_ne {α : Type} (f : Nat → α) {i j : Nat} (x : α) (h : j ≠ i) : setF f i x j = f j := if_neg h
theorem join_op {P : Program} {Q : Exit → Act → World → Prop} {ops : Array Oper} {o : Oper} {i : Nat} (hi : ops[i]? = some o) (hg : o.guard = none) {t : Tmp} (hd : o.dst = some t) {L : Value → World → Prop} {a a' : Act} {w : World} {K : Act → World → Prop} (he : execOp a'.eval o = execOp a.eval o)
    (h : wpList P ops (JoinPost a' o L) [o] a' w) (hK : ∀ v w', L v w' → K (a.put o.dst v) w') : wpOp P ops Q i K a w := by
  have hwant : ∀ x, Region.wanted o x = true := fun x => by simp [Region.wanted, hg]
  unfold wpOp
  simp only [hi]
  rw [if_pos (hwant _)]
  unfold wpList at h
  rw [if_pos (hwant _)] at h
  rcases h with h | h
  rotate_left
  · exact absurd h.2 JoinPost.out
  refine .inl ?_
  have hpost : ∀ v w', JoinPost a' o L .normal (a'.put o.dst v) w' → K (a.put o.dst v) w' := fun v w' hp => by
    obtain ⟨_, _, t', v', hd', hv', hR⟩ := hp
    rw [hd] at hd'
    injection hd' with hd'
    subst hd'
    rw [put_get, if_pos hd] at hv'
    have e : v = v' := by
      cases hx : a'.tmps[t]? with
      | none => rw [hx] at hv'; cases hv'
      | some y => rw [hx] at hv'; injection hv'
    subst e
    exact hK v w' hR
  unfold Oper.wp at h ⊢
  rw [he] at h
  generalize (execOp a.eval o).run P w = r at *
  cases r with
  | ok x w' =>
    cases x with
    | value v => exact hpost v w' h
    | skip => exact hpost undef w' h
    | defer d =>
      exfalso
      obtain ⟨_, hdf, _⟩ := h
      rw [put_defers] at hdf
      have := congrArg List.length hdf
      simp at this
    | enter f args =>
      refine Calls.mono h ?_
      intro e w'' he
      cases e with
      | returned v => exact hpost v w'' he
      | panicked chain => cases he.1
      | outgrown => exact absurd he JoinPost.out
    | row row args => exact Rows.mono h (fun v w'' he => hpost v w'' he)
    | _ => exact h.elim
  | halt x w' =>
    cases x with
    | panic v => cases h.1
    | _ => exact h.elim
variable {P : Program} {l : List Oper} {n : Nat} {a0 : Act} {J : (Nat → Bool) → (Nat → Value) → World → Prop} {Q : Exit → Act → World → Prop}
theorem join_run (hB : Region.relB l.toArray n = true)
    (hq : ∀ i o, i < n → l[i]? = some o → ∀ (D : Nat → Bool) (vs : Nat → Value) (w : World), D i = false → (∀ j, j < i → Region.blindTo l.toArray i j = false → D j = true) → J D vs w → ∃ L : Value → World → Prop, wpList P l.toArray (JoinPost (putsN vs 0 a0 (l.take i)) o L) [o] (putsN vs 0 a0 (l.take i)) w ∧ ∀ v w', L v w' → J (setF D i true) (setF vs i v) w')
    (ht : ∀ (D : Nat → Bool) (vs : Nat → Value) (w : World), (∀ j, j < n → D j = true) → J D vs w → wpList P l.toArray Q (l.drop n) (putsN vs 0 a0 (l.take n)) w) :
    ∀ (f : Nat) (U : List Nat) (vs : Nat → Value) (listed : Array Bool) (a : Act) (w : World), U.length = f → U.Nodup → (∀ i, i ∈ U ↔ i < n ∧ listed.getD i false = false) →
      JoinFlow l.toArray n a0 J vs listed a w → wpAny P .any l.toArray Q (f + (l.toArray.size - n)) listed a w := by
  simp only [Region.relB, Bool.and_eq_true, decide_eq_true_eq, List.all_eq_true, List.mem_range] at hB
  obtain ⟨⟨⟨⟨⟨⟨⟨hsel, hn⟩, hsink⟩, hchain⟩, hseq⟩, hedge⟩, hpair⟩, hguard⟩ := hB
  have hn' : n ≤ l.length := by have h := hn; rw [List.size_toArray] at h; omega
  have hsz : l.toArray.size = l.length := by simp
  have hget : ∀ i : Nat, l.toArray[i]? = l[i]? := fun i => by simp
  have hselect := Region.noSelect_spec hsel
  have hpw : ∀ m, m ≤ n → (l.take m).Pairwise (fun o o' => ∀ t, o.dst = some t → o'.dst ≠ some t) := fun m hm => by
    rw [List.pairwise_iff_getElem]
    intro i j hi hj hij t ht
    rw [List.length_take] at hi hj
    rw [List.getElem_take] at ht ⊢
    exact Region.flowPair_dst (hpair i (by omega) j (by omega)) (by rw [hget]; exact List.getElem?_eq_getElem (by omega)) (by rw [hget]; exact List.getElem?_eq_getElem (by omega)) (fun e => by subst e; omega) ht
  have hputAt : ∀ (vs : Nat → Value) m, m ≤ n → ∀ j o t, j < m → l.toArray[j]? = some o → o.dst = some t → (putsN vs 0 a0 (l.take m)).tmps[t]? = a0.tmps[t]?.map (fun _ => vs j) := fun vs m hm j o t hj ho hd => by
    rw [putsN_at vs t (l.take m) 0 a0 j o (hpw m hm) (by rw [List.getElem?_take, if_pos hj, ← hget]; exact ho) hd, Nat.zero_add]
  have hputO : ∀ (vs : Nat → Value) m, m ≤ n → ∀ t, (∀ j o, j < n → l.toArray[j]? = some o → o.dst ≠ some t) → (putsN vs 0 a0 (l.take m)).tmps[t]? = a0.tmps[t]? := fun vs m hm t h =>
    putsN_other vs t _ 0 a0 fun o ho => by
      obtain ⟨q, hq'⟩ := List.mem_iff_getElem?.1 ho
      rw [List.getElem?_take] at hq'
      split at hq'
      · exact h q o (by omega) (by rw [hget]; exact hq')
      · cases hq'
  intro f
  induction f with
  | zero =>
    intro U vs listed a w hU _ hUm hF
    obtain rfl : U = [] := List.eq_nil_of_length_eq_zero hU
    have hall : ∀ i, i < n → listed.getD i false = true := fun i hi => by
      cases h : listed.getD i false with
      | true => rfl
      | false => have := (hUm i).2 ⟨hi, h⟩; simp at this
    have hl : listed = Region.marked l.toArray.size n := by
      apply Array.ext_getElem?
      intro i
      by_cases hi : i < l.toArray.size
      · have hil : i < listed.size := by rw [hF.inv.size]; exact hi
        have e2 : (Region.marked l.toArray.size n)[i]? = some (decide (i < n)) := by
          rw [List.size_toArray] at hi
          unfold Region.marked
          simp [hi]
        rw [e2, Array.getElem?_eq_getElem hil]
        by_cases hin : i < n
        · have := hall i hin
          simp [hil] at this
          simp [this, hin]
        · have := hF.inv.tail i (by omega) hi
          simp [hil] at this
          simp [this, hin]
      · rw [Array.getElem?_eq_none (by rw [hF.inv.size]; omega), Array.getElem?_eq_none (by rw [List.size_toArray] at hi; unfold Region.marked; simp; omega)]
    have ha : a = putsN vs 0 a0 (l.take n) := by
      have htm : a.tmps = (putsN vs 0 a0 (l.take n)).tmps := by
        apply Array.ext_getElem?
        intro t
        by_cases h : ∃ j o, j < n ∧ l.toArray[j]? = some o ∧ o.dst = some t
        · obtain ⟨j, o, h1, h2, h3⟩ := h
          rw [hF.slot j o t h1 h2 h3, if_pos (hall j h1), hputAt vs n (Nat.le_refl _) j o t h1 h2 h3]
        · have h' : ∀ j o, j < n → l.toArray[j]? = some o → o.dst ≠ some t := fun j o h1 h2 h3 => h ⟨j, o, h1, h2, h3⟩
          rw [hF.other t h', hputO vs n (Nat.le_refl _) t h']
      have hd : a.defers = (putsN vs 0 a0 (l.take n)).defers := by rw [putsN_defers, hF.defers]
      cases a; simp only at htm hd; cases hX : putsN vs 0 a0 (l.take n); rw [hX] at htm hd; simp only at htm hd; rw [htm, hd]
    rw [ha]
    have hdl : (l.drop n).length = l.toArray.size - n := by simp
    have := wpAny_of_seq (md := .any) (Q' := Q) (ops := l.toArray) (l.drop n) n listed (putsN vs 0 a0 (l.take n)) w (fun j => by simp [List.getElem?_drop]) (by rw [hdl, hl]; exact hseq) (ht _ vs w hall hF.join)
    rw [hdl] at this
    rwa [Nat.zero_add]
  | succ f ih =>
    intro U vs listed a w hU hnd hUm hF
    obtain ⟨i0, hi0, hleast⟩ := exists_leastM U (fun e => by rw [e] at hU; simp at hU)
    obtain ⟨hi0n, hi0u⟩ := (hUm i0).1 hi0
    have hin : ∀ i, i < n → i < listed.size := fun i hi => by rw [hF.inv.size]; omega
    have hready : i0 ∈ Region.ready .any l.toArray listed := by
      have hlt : i0 < l.toArray.size := by omega
      refine mem_ready.2 ⟨getD_in (hin _ hi0n) hi0u, l.toArray[i0], Array.getElem?_eq_getElem hlt, fun e he hbd => ?_⟩
      have h1 := hedge i0 hi0n
      rw [Array.getElem?_eq_getElem hlt] at h1
      simp only [Array.all_eq_true_iff_forall_mem] at h1
      have h2 := h1 e he
      simp only [hbd, Bool.not_true, Bool.false_or, decide_eq_true_eq] at h2
      cases h : listed.getD e.on false with
      | true => rfl
      | false =>
        have := hleast e.on ((hUm e.on).2 ⟨by omega, h⟩)
        omega
    rw [show f + 1 + (l.toArray.size - n) = (f + (l.toArray.size - n)) + 1 by omega]
    refine ⟨fun h => (by rw [h] at hready; cases hready), fun i hi => ?_⟩
    obtain ⟨hiu, o, ho, hdep⟩ := mem_ready.1 hi
    have hilt : i < n := Nat.lt_of_not_le fun h => tail_waits hsink hchain hn hF.inv _ i0 rfl hi0n (getD_in (hin _ hi0n) hi0u) i h hi
    have hiU : i ∈ U := (hUm i).2 ⟨hilt, getD_both hiu⟩
    have hinv := hF.inv.set hi hilt
    have hlist : ∀ j, (listed.setIfInBounds i true).getD j false = if j = i then true else listed.getD j false := fun j => by
      by_cases h : j = i
      · subst h; rw [if_pos rfl]; simp [hin j hilt]
      · rw [if_neg h, getD_set_ne false (Ne.symm h)]
    have hUm' : ∀ j, j ∈ U.erase i ↔ j < n ∧ (listed.setIfInBounds i true).getD j false = false := fun j => by
      rw [hnd.mem_erase_iff, hUm j, hlist j]
      by_cases h : j = i
      · simp [h]
      · simp [h]
    have hlen' : (U.erase i).length = f := by rw [List.length_erase_of_mem hiU]; omega
    have hnd' := hnd.erase i
    have hseen : ∀ t ∈ o.looksAt l.toArray, ∀ j oj, j < n → l.toArray[j]? = some oj → oj.dst = some t → i ≠ j ∧ j < i ∧ listed.getD j false = true := by
      intro t ht j oj hj hoj hd
      have hne : i ≠ j := fun e => by
        subst e
        rw [ho] at hoj; cases hoj
        exact Region.flowPair_self (hpair i hilt i hilt) ho hd ht
      have h1 := Region.flowPair_looks (hpair i hilt j hj) ho hoj hne hd ht
      obtain ⟨o', ho', e, he, hbd, hon⟩ := Region.waitsFor_spec h1.2
      rw [ho] at ho'; cases ho'
      have := hdep e he hbd
      rw [hon] at this
      exact ⟨hne, h1.1, this⟩
    have hgd := hguard i hilt
    rw [ho] at hgd
    simp only [Bool.and_eq_true, Option.isNone_iff_eq_none] at hgd
    obtain ⟨hg, hds⟩ := hgd
    obtain ⟨t0, hd0⟩ := Option.isSome_iff_exists.1 hds
    have hex : execOp (putsN vs 0 a0 (l.take i)).eval o = execOp a.eval o := (seen_alike (ops := l.toArray) (fun cs bb => hselect i o cs bb ho) fun t htl => by
      by_cases h : ∃ j o, j < n ∧ l.toArray[j]? = some o ∧ o.dst = some t
      · obtain ⟨j, oj, h1, h2, h3⟩ := h
        obtain ⟨k1, k2, k3⟩ := hseen t htl j oj h1 h2 h3
        rw [hputAt vs i (by omega) j oj t k2 h2 h3, hF.slot j oj t h1 h2 h3, if_pos k3]
      · have h' : ∀ j o, j < n → l.toArray[j]? = some o → o.dst ≠ some t := fun j o h1 h2 h3 => h ⟨j, o, h1, h2, h3⟩
        rw [hputO vs i (by omega) t h', hF.other t h']).1
    have hdepD : ∀ j, j < i → Region.blindTo l.toArray i j = false → listed.getD j false = true := fun j hj hbl => by
      have hjl : j < l.toArray.size := by omega
      unfold Region.blindTo at hbl
      rw [ho, Array.getElem?_eq_getElem hjl] at hbl
      simp only at hbl
      split at hbl
      · rename_i d hdj
        have hmem : d ∈ o.looksAt l.toArray := by simpa using hbl
        exact (hseen d hmem j _ (by omega) (Array.getElem?_eq_getElem hjl) hdj).2.2
      · cases hbl
    obtain ⟨L, hL1, hL2⟩ := hq i o hilt (by rw [← hget]; exact ho) (fun j => listed.getD j false) vs w (getD_both hiu) hdepD hF.join
    refine join_op ho hg hd0 hex hL1 (fun v w' hR0 => ?_)
    have hR := hL2 v w' hR0
    refine ih (U.erase i) (setF vs i v) _ _ _ hlen' hnd' hUm' ⟨hinv, by rw [put_size, hF.size], by rw [put_defers, hF.defers], ?_, ?_, ?_⟩
    · intro j oj t hj hoj hd
      rw [put_get, hlist j]
      by_cases hji : j = i
      · subst hji
        rw [ho] at hoj; cases hoj
        rw [if_pos hd, if_pos rfl, if_pos rfl, setF_same, hF.slot j o t hj ho hd, if_neg (by rw [getD_both hiu]; simp)]
      · have hne : o.dst ≠ some t := fun h => Region.flowPair_dst (hpair i hilt j hj) ho hoj (Ne.symm hji) h hd
        rw [if_neg hne, if_neg hji, setF_ne _ _ hji, hF.slot j oj t hj hoj hd]
    · intro t h
      rw [put_get, if_neg (h i o hilt ho), hF.other t h]
    · have e : (fun j => (listed.setIfInBounds i true).getD j false) = setF (fun j => listed.getD j false) i true := funext fun j => hlist j
      rw [e]
      exact hR
theorem wp_region_join {id : Nat} {W : World} (n : Nat) (J : (Nat → Bool) → (Nat → Value) → World → Prop) (hm : P.follows .mixedOrders = true) (hB : Region.relB l.toArray n = true)
    (h0 : J (fun _ => false) (fun _ => undef) W.drew)
    (hq : relAll (fun i o => ∀ (D : Nat → Bool) (vs : Nat → Value) (w : World), D i = false → (∀ j, j < i → Region.blindTo l.toArray i j = false → D j = true) → J D vs w → ∃ L : Value → World → Prop, wpList P l.toArray (JoinPost (putsN vs 0 a0 (l.take i)) o L) [o] (putsN vs 0 a0 (l.take i)) w ∧ ∀ v w', L v w' → J (setF D i true) (setF vs i v) w') 0 (l.take n))
    (ht : ∀ (D : Nat → Bool) (vs : Nat → Value) (w : World), (∀ j, j < n → D j = true) → J D vs w → wpList P l.toArray Q (l.drop n) (putsN vs 0 a0 (l.take n)) w) :
    (Code.region id l.toArray true).wp P Q a0 W := by
  refine wp_region_any hm ?_
  have hB' := hB
  simp only [Region.relB, Bool.and_eq_true, decide_eq_true_eq] at hB'
  have hn := hB'.1.1.1.1.1.1.2
  have inv0 : HeadInv .any l.toArray n (Array.replicate l.toArray.size false) :=
    ⟨by simp, fun j oj _ hl => (by rw [getD_replicate_false] at hl; cases hl), fun t _ ht => getD_in (by simpa using ht) (getD_replicate_false _ _)⟩
  have e0 : (fun j => (Array.replicate l.toArray.size false).getD j false) = fun _ => false := funext fun j => getD_replicate_false _ _
  have h := join_run (a0 := a0) (J := J) (Q := Q) hB
    (fun i o hi ho => by
      have := relAll.get _ 0 hq i o (by rw [List.getElem?_take, if_pos hi]; exact ho)
      rwa [Nat.zero_add] at this) ht n (List.range n) (fun _ => undef) (Array.replicate l.toArray.size false) a0 W.drew (by simp) List.nodup_range (fun i => by rw [List.mem_range]; exact ⟨fun h => ⟨h, getD_replicate_false _ _⟩, fun h => h.1⟩)
    ⟨inv0, rfl, rfl, fun j o t _ _ _ => by rw [getD_replicate_false]; rfl, fun t _ => rfl, by rw [e0]; exact h0⟩
  rwa [show n + (l.toArray.size - n) = l.toArray.size by omega] at h
end
end Go
/- A region that draws its order, its head operations told by relations; those that make memory make it apart. -/
namespace Go
open Go.RowKit
section
def blk : Value → Nat
  | .pointer (some ⟨b, _, _⟩) => b
  | _ => 0
structure SepJ (W : World) (n : Nat) (A : Nat → Bool) (R : Nat → Value → World → Prop) (D : Nat → Bool) (vs : Nat → Value) (w : World) : Prop where
  later : Below W.heap.size W w
  rel : ∀ j, j < n → D j = true → R j (vs j) w
  lt : ∀ j, j < n → A j = true → D j = true → blk (vs j) < w.heap.size
  sep : ∀ i j, i < n → j < n → A i = true → A j = true → i ≠ j → D i = true → D j = true → blk (vs i) ≠ blk (vs j)
variable {P : Program} {l : List Oper} {W : World} {a0 : Act} {Q : Exit → Act → World → Prop}
theorem wp_region_sep {id : Nat} (n : Nat) (A : Nat → Bool) (R : Nat → Value → World → Prop) (hm : P.follows .mixedOrders = true) (hB : Region.relB l.toArray n = true)
    (hst : ∀ j v w w', R j v w → Below w.heap.size w w' → R j v w')
    (hq : relAll (fun i o => ∀ (vs : Nat → Value) (w : World), Below W.heap.size W w → (∀ j, j < i → Region.blindTo l.toArray i j = false → R j (vs j) w) → wpList P l.toArray (RelPost w (putsN vs 0 a0 (l.take i)) o (fun v w' => R i v w' ∧ (A i = true → w.heap.size ≤ blk v ∧ blk v < w'.heap.size))) [o] (putsN vs 0 a0 (l.take i)) w) 0 (l.take n))
    (ht : ∀ (vs : Nat → Value) (w : World), Below W.heap.size W w → (∀ j, j < n → R j (vs j) w) → (∀ i j, i < n → j < n → A i = true → A j = true → i ≠ j → blk (vs i) ≠ blk (vs j)) → wpList P l.toArray Q (l.drop n) (putsN vs 0 a0 (l.take n)) w) :
    (Code.region id l.toArray true).wp P Q a0 W := by
  have hB' := hB
  simp only [Region.relB, Bool.and_eq_true, decide_eq_true_eq] at hB'
  have hn := hB'.1.1.1.1.1.1.2
  have h0 : SepJ W n A R (fun _ => false) (fun _ => undef) W.drew := ⟨⟨rfl, rfl, rfl, Nat.le_refl _, fun _ _ => rfl⟩, (fun j _ h => by cases h), (fun j _ _ h => by cases h), (fun i j _ _ _ _ _ h => by cases h)⟩
  refine wp_region_join n (SepJ W n A R) hm hB h0 ?_ (fun D vs w hD hJ => ht vs w hJ.later (fun j hj => hJ.rel j hj (hD j hj)) (fun i j hi hj h1 h2 hne => hJ.sep i j hi hj h1 h2 hne (hD i hi) (hD j hj)))
  have key : ∀ i o, (l.take n)[i]? = some o → ∀ (D : Nat → Bool) (vs : Nat → Value) (w : World), D i = false → (∀ j, j < i → Region.blindTo l.toArray i j = false → D j = true) → SepJ W n A R D vs w → ∃ L : Value → World → Prop, wpList P l.toArray (JoinPost (putsN vs 0 a0 (l.take i)) o L) [o] (putsN vs 0 a0 (l.take i)) w ∧ ∀ v w', L v w' → SepJ W n A R (setF D i true) (setF vs i v) w' := by
    intro i o ho D vs w hDi hdep hJ
    have hin : i < n := by
      have h1 := (List.getElem?_eq_some_iff.1 ho).1
      rw [List.length_take] at h1; omega
    have h := relAll.get _ 0 hq i o ho
    rw [Nat.zero_add] at h
    refine ⟨fun v w' => Below w.heap.size w w' ∧ R i v w' ∧ (A i = true → w.heap.size ≤ blk v ∧ blk v < w'.heap.size), h vs w hJ.later (fun j hj hb => hJ.rel j (by omega) (hdep j hj hb)), ?_⟩
    rintro v w' ⟨hb, hR, hA⟩
    refine ⟨hJ.later.trans (hb.mono hJ.later.size), fun j hj hd => ?_, fun j hj haj hd => ?_, fun j k hj hk haj hak hne hdj hdk => ?_⟩
    · by_cases hji : j = i
      · subst hji; rw [setF_same]; exact hR
      · rw [setF_ne _ _ hji] at hd ⊢; exact hst j _ _ _ (hJ.rel j hj hd) hb
    · by_cases hji : j = i
      · subst hji; rw [setF_same]; exact (hA haj).2
      · rw [setF_ne _ _ hji] at hd ⊢; exact Nat.lt_of_lt_of_le (hJ.lt j hj haj hd) hb.size
    · by_cases hji : j = i
      · subst hji
        have hkj : k ≠ j := Ne.symm hne
        rw [setF_same, setF_ne _ _ hkj]
        rw [setF_ne _ _ hkj] at hdk
        have h3 := hJ.lt k hk hak hdk
        have h4 := (hA haj).1
        omega
      · by_cases hki : k = i
        · subst hki
          rw [setF_same, setF_ne _ _ hji]
          rw [setF_ne _ _ hji] at hdj
          have h3 := hJ.lt j hj haj hdj
          have h4 := (hA hak).1
          omega
        · rw [setF_ne _ _ hji, setF_ne _ _ hki]
          rw [setF_ne _ _ hji] at hdj
          rw [setF_ne _ _ hki] at hdk
          exact hJ.sep j k hj hk haj hak hne hdj hdk
  have build : ∀ (os : List Oper) (k : Nat), (∀ i o, os[i]? = some o → (l.take n)[k + i]? = some o) → relAll (fun i o => ∀ (D : Nat → Bool) (vs : Nat → Value) (w : World), D i = false → (∀ j, j < i → Region.blindTo l.toArray i j = false → D j = true) → SepJ W n A R D vs w → ∃ L : Value → World → Prop, wpList P l.toArray (JoinPost (putsN vs 0 a0 (l.take i)) o L) [o] (putsN vs 0 a0 (l.take i)) w ∧ ∀ v w', L v w' → SepJ W n A R (setF D i true) (setF vs i v) w') k os := by
    intro os
    induction os with
    | nil => intro k _; trivial
    | cons o os ih =>
      intro k h
      exact ⟨key k o (by simpa using h 0 o rfl), ih (k + 1) (fun i o' ho' => by have := h (i + 1) o' (by simpa using ho'); rwa [show k + (i + 1) = k + 1 + i by omega] at this)⟩
  exact build (l.take n) 0 (fun i o ho => by rwa [Nat.zero_add])
end
end Go
/- Two rows of one's own grow in one drawn region. -/
namespace Go.Proofs.YtflchbejjofppaaGreatDoor
open Go Go.Proofs Go.RowKit
theorem wpList_pushAt {α : Type} (f : α → List Value) (sz bytes : Nat) (t e : TypeId) (z : Value) {P : Program} (hT : P.underlying t = some (.slice e)) (hI : (P.info? e).map (fun i => (i.zero, i.size, i.bytes)) = some (some z, sz, bytes))
    (hzs : z.cells.size = sz) (hsz : 0 < sz) (hby : bytes ≤ 1000) (hf : ∀ x, (f x).length = sz) (h1c : ∀ x, ∀ u ∈ f x, u.oneCell' = true)
    (l : List α) (x : α) (base : Nat) (w : World) (g : Nat) (cs : Array Value) (e' : TypeId) (hg : w.heap[g]? = some (.cells cs e' (0, 0))) (hcs : cs.toList = f x) (v : Value) (hown : Own f sz e w base v l) (hbase : base ≤ w.heap.size) (hlen : l.length ≤ 1000000)
    {ops : Array Oper} {rest : List Oper} {o : Oper} {a : Act} {Q : Exit → Act → World → Prop} (hgd : o.guard = none) (s y : Operand)
    (ho : o.op = .call { callee := .builtin .append, args := #[s, y], argTypes := #[t, t] }) (hs : a.eval s = v) (hy : a.eval y = .slice (some ⟨g, 0, none⟩) 1 1)
    (h : ∀ v' w', Own f sz e w' base v' (l ++ [x]) → w.grownBy w' v.ownBlock → (v'.ownBlock = v.ownBlock ∨ v'.ownBlock = some w.heap.size) → wpList P ops Q rest (a.put o.dst v') w') : wpList P ops Q (o :: rest) a w := by
  obtain ⟨i, hi, hz0, hz1, hz2⟩ := info_parts hI
  have hmul : (l.length + 1) * bytes ≤ 1000001 * 1000 := Nat.mul_le_mul (by omega) hby
  refine wpList_append_own_at _ hgd s y t ho base e i z sz bytes hT hi hz0 hz1 hz2 hzs hsz v l.length _ hs hown ⟨g, 0, none⟩ 1 1 (f x) hy (by rw [hf]; omega) ?_ (h1c x) (by simp [maxLen]; omega) (by omega) hbase ?_
  · intro j u hu
    rw [Addr.add_lit, Nat.zero_add, cell_of_row _ g j cs e' (0, 0) hg]
    rw [← hcs] at hu
    simpa using hu
  · intro v' w' ho' hg' _ hat
    refine h v' w' ?_ hg' hat
    unfold Own
    rw [List.length_append, List.length_singleton, List.flatMap_append, List.flatMap_singleton]
    exact ho'
structure TwoOwn {α β : Type} (f : α → List Value) (sz : Nat) (e : TypeId) (f' : β → List Value) (sz' : Nat) (e' : TypeId) (B : Nat) (w0 : World) (q : Nat) (qe : TypeId) (qs : List Value) (c1 : Value) (l1 : List α) (c2 : Value) (l2 : List β) (w : World) : Prop where
  below : Below B w0 w
  base : B ≤ w.heap.size
  box : Box w q qe qs
  own1 : Own f sz e w B c1 l1
  own2 : Own f' sz' e' w B c2 l2
  sep : ∀ g, c1.ownBlock = some g → c2.ownBlock ≠ some g
  nq1 : c1.ownBlock ≠ some q
  nq2 : c2.ownBlock ≠ some q
section
variable {α β : Type} {f : α → List Value} {sz : Nat} {e : TypeId} {f' : β → List Value} {sz' : Nat} {e' : TypeId} {B : Nat} {w0 w w' : World} {q : Nat} {qe : TypeId} {qs : List Value} {c1 c2 : Value} {l1 : List α} {l2 : List β}
theorem TwoOwn.swap (h : TwoOwn f sz e f' sz' e' B w0 q qe qs c1 l1 c2 l2 w) : TwoOwn f' sz' e' f sz e B w0 q qe qs c2 l2 c1 l1 w :=
  ⟨h.below, h.base, h.box, h.own2, h.own1, fun g h2 h1 => h.sep g h1 h2, h.nq2, h.nq1⟩
theorem Own.lt2 {v : Value} {l : List α} (h : Own f sz e w B v l) : ∀ k, v.ownBlock = some k → k < w.heap.size := fun k hk => (World.ownsRow.lt h k hk).2
theorem TwoOwn.grow (h : TwoOwn f sz e f' sz' e' B w0 q qe qs c1 l1 c2 l2 w) (hb : Below w.heap.size w w') : TwoOwn f sz e f' sz' e' B w0 q qe qs c1 l1 c2 l2 w' :=
  ⟨h.below.trans (hb.mono h.base), Nat.le_trans h.base hb.size, h.box.later hb, h.own1.later hb, h.own2.later hb, h.sep, h.nq1, h.nq2⟩
theorem TwoOwn.push1 (h : TwoOwn f sz e f' sz' e' B w0 q qe qs c1 l1 c2 l2 w) {v : Value} {x : α} (ho : Own f sz e w' B v (l1 ++ [x])) (hg : w.grownBy w' c1.ownBlock) (hat : v.ownBlock = c1.ownBlock ∨ v.ownBlock = some w.heap.size) :
    TwoOwn f sz e f' sz' e' B w0 q qe qs v (l1 ++ [x]) c2 l2 w' := by
  have hqlt := h.box.lt
  refine ⟨h.below.grown hg h.base (fun k hk => h.own1.lt' k hk), Nat.le_trans h.base hg.size, h.box.kept hg (fun e => h.nq1 e.symm), ho, ?_, fun g h1 h2 => ?_, fun h1 => ?_, h.nq2⟩
  · refine h.own2.kept hg ?_
    cases h2 : c2.ownBlock with
    | none => exact .inl rfl
    | some g => exact .inr (fun e => h.sep g e.symm h2)
  · rcases hat with h3 | h3
    · exact h.sep g (h3 ▸ h1) h2
    · have := h.own2.lt2 g h2
      rw [h3] at h1; injection h1 with h1; omega
  · rcases hat with h3 | h3
    · exact h.nq1 (h3 ▸ h1)
    · rw [h3] at h1; injection h1 with h1; omega
def LitAt (w : World) (c1 c2 v : Value) (cs : List Value) (t : TypeId) : Prop := ∃ g, v = .slice (some ⟨g, 0, none⟩) 1 1 ∧ Box w g t cs ∧ c1.ownBlock ≠ some g ∧ c2.ownBlock ≠ some g
theorem LitAt.grow {v : Value} {cs : List Value} {t : TypeId} (h : LitAt w c1 c2 v cs t) (hb : Below w.heap.size w w') : LitAt w' c1 c2 v cs t := by
  obtain ⟨g, h1, h2, h3⟩ := h
  exact ⟨g, h1, h2.later hb, h3⟩
theorem LitAt.push1 {v v1 : Value} {cs : List Value} {t : TypeId} (h : LitAt w c1 c2 v cs t) (hg : w.grownBy w' c1.ownBlock) (hat : v1.ownBlock = c1.ownBlock ∨ v1.ownBlock = some w.heap.size) : LitAt w' v1 c2 v cs t := by
  obtain ⟨g, h1, h2, h3, h4⟩ := h
  refine ⟨g, h1, h2.kept hg (fun e => h3 e.symm), fun h5 => ?_, h4⟩
  rcases hat with h6 | h6
  · exact h3 (h6 ▸ h5)
  · rw [h6] at h5; injection h5 with h5; have := h2.lt; omega
theorem LitAt.swap {v : Value} {cs : List Value} {t : TypeId} (h : LitAt w c1 c2 v cs t) : LitAt w c2 c1 v cs t := by
  obtain ⟨g, h1, h2, h3, h4⟩ := h
  exact ⟨g, h1, h2, h4, h3⟩
theorem LitAt.new (h : TwoOwn f sz e f' sz' e' B w0 q qe qs c1 l1 c2 l2 w) (cs : Array Value) (t : TypeId) : LitAt (w.alloc (.cells cs t)) c1 c2 (.slice (some ⟨w.heap.size, 0, none⟩) 1 1) cs.toList t :=
  ⟨_, rfl, Box.new w cs t, fun h1 => Nat.lt_irrefl _ (h.own1.lt2 _ h1), fun h1 => Nat.lt_irrefl _ (h.own2.lt2 _ h1)⟩
end
end Go.Proofs.YtflchbejjofppaaGreatDoor
