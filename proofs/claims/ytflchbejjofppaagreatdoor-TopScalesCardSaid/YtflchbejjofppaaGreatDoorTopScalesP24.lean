/- Lemmas on the way to the law TopScales (part 24): Rt Ru Hf Hg Hh -/
import Derived.Test.YtflchbejjofppaaGreatDoorTopScalesP17
import Derived.Test.YtflchbejjofppaaGreatDoorTopScalesP01
import Derived.Test.YtflchbejjofppaaGreatDoorTopScalesP21
import Derived.Test.YtflchbejjofppaaGreatDoorTopScalesP14
import Derived.Test.YtflchbejjofppaaGreatDoorTopScalesP18
import Derived.Test.YtflchbejjofppaaGreatDoorTopScalesP19
set_option linter.unusedVariables false
set_option linter.unusedSimpArgs false

/- The rule of one invariant (Rq), where stores too may stand among the head operations. -/
namespace Go
open Go.RowKit
section
def Region.relS (ops : Array Oper) (n : Nat) : Bool :=
  Region.noSelect ops && decide (n < ops.size) && Region.sinkB .any ops n && Region.chainB .any ops n && Region.seqB .any ops (ops.size - n) n (Region.marked ops.size n) &&
  ((List.range n).all fun i => match ops[i]? with | some o => o.after.all fun e => !Region.binds .any e || decide (e.on < i) | none => true) &&
  ((List.range n).all fun i => (List.range n).all fun j => Region.flowPair ops i j) &&
  ((List.range n).all fun i => match ops[i]? with | some o => o.guard.isNone | none => true)
structure JoinFlowS (ops : Array Oper) (n : Nat) (a0 : Act) (J : (Nat → Bool) → (Nat → Value) → World → Prop) (vs : Nat → Value) (listed : Array Bool) (a : Act) (w : World) : Prop where
  inv : HeadInv .any ops n listed
  size : a.tmps.size = a0.tmps.size
  defers : a.defers = a0.defers
  slot : ∀ j o t, j < n → ops[j]? = some o → o.dst = some t → a.tmps[t]? = if listed.getD j false = true then a0.tmps[t]?.map (fun _ => vs j) else a0.tmps[t]?
  other : ∀ t, (∀ j o, j < n → ops[j]? = some o → o.dst ≠ some t) → a.tmps[t]? = a0.tmps[t]?
  join : J (fun j => listed.getD j false) vs w
def JoinPostS (a0 : Act) (o : Oper) (K : Value → World → Prop) (e : Exit) (a : Act) (w : World) : Prop := e = .normal ∧ a.defers = a0.defers ∧ ∃ v, (∀ t, o.dst = some t → a.tmps[t]? = some v) ∧ K v w
theorem JoinPostS.out {a0 : Act} {o : Oper} {K : Value → World → Prop} : ¬ LetsOut (JoinPostS a0 o K) := fun ⟨_, _, h⟩ => by cases h.1
theorem join_opS {P : Program} {Q : Exit → Act → World → Prop} {ops : Array Oper} {o : Oper} {i : Nat} (hi : ops[i]? = some o) (hg : o.guard = none) {L : Value → World → Prop} {a a' : Act} {w : World} {K : Act → World → Prop} (he : execOp a'.eval o = execOp a.eval o)
    (h : wpList P ops (JoinPostS a' o L) [o] a' w) (hK : ∀ v w', L v w' → K (a.put o.dst v) w') : wpOp P ops Q i K a w := by
  have hwant : ∀ x, Region.wanted o x = true := fun x => by simp [Region.wanted, hg]
  unfold wpOp
  simp only [hi]
  rw [if_pos (hwant _)]
  unfold wpList at h
  rw [if_pos (hwant _)] at h
  rcases h with h | h
  rotate_left
  · exact absurd h.2 JoinPostS.out
  refine .inl ?_
  have hpost : ∀ v w', JoinPostS a' o L .normal (a'.put o.dst v) w' → K (a.put o.dst v) w' := fun v w' hp => by
    obtain ⟨_, _, v', hv', hR⟩ := hp
    cases hd : o.dst with
    | none =>
      have h1 := hK v' w' hR
      rw [hd] at h1
      exact h1
    | some t =>
      have hv'' := hv' t hd
      rw [put_get, if_pos hd] at hv''
      have e : v = v' := by
        cases hx : a'.tmps[t]? with
        | none => rw [hx] at hv''; cases hv''
        | some y => rw [hx] at hv''; injection hv''
      subst e
      have h1 := hK v w' hR
      rw [hd] at h1
      exact h1
  unfold Oper.wp at h ⊢
  rw [he] at h
  generalize (execOp a.eval o).run P w = r at *
  cases r with
  | ok x w' =>
    cases x with
    | value v => exact hpost v w' h
    | skip => exact hpost undef w' h
    | defer d =>
      exfalso
      obtain ⟨_, hdf, _⟩ := h
      rw [put_defers] at hdf
      have := congrArg List.length hdf
      simp at this
    | enter f args =>
      refine Calls.mono h ?_
      intro e w'' he
      cases e with
      | returned v => exact hpost v w'' he
      | panicked chain => cases he.1
      | outgrown => exact absurd he JoinPostS.out
    | row row args => exact Rows.mono h (fun v w'' he => hpost v w'' he)
    | _ => exact h.elim
  | halt x w' =>
    cases x with
    | panic v => cases h.1
    | _ => exact h.elim
variable {P : Program} {l : List Oper} {n : Nat} {a0 : Act} {J : (Nat → Bool) → (Nat → Value) → World → Prop} {Q : Exit → Act → World → Prop}
theorem join_runS (hB : Region.relS l.toArray n = true)
    (hq : ∀ i o, i < n → l[i]? = some o → ∀ (D : Nat → Bool) (vs : Nat → Value) (w : World), D i = false → (∀ j, j < i → Region.blindTo l.toArray i j = false → D j = true) → J D vs w → ∃ L : Value → World → Prop, wpList P l.toArray (JoinPostS (putsN vs 0 a0 (l.take i)) o L) [o] (putsN vs 0 a0 (l.take i)) w ∧ ∀ v w', L v w' → J (setF D i true) (setF vs i v) w')
    (ht : ∀ (D : Nat → Bool) (vs : Nat → Value) (w : World), (∀ j, j < n → D j = true) → J D vs w → wpList P l.toArray Q (l.drop n) (putsN vs 0 a0 (l.take n)) w) :
    ∀ (f : Nat) (U : List Nat) (vs : Nat → Value) (listed : Array Bool) (a : Act) (w : World), U.length = f → U.Nodup → (∀ i, i ∈ U ↔ i < n ∧ listed.getD i false = false) →
      JoinFlowS l.toArray n a0 J vs listed a w → wpAny P .any l.toArray Q (f + (l.toArray.size - n)) listed a w := by
  simp only [Region.relS, Bool.and_eq_true, decide_eq_true_eq, List.all_eq_true, List.mem_range] at hB
  obtain ⟨⟨⟨⟨⟨⟨⟨hsel, hn⟩, hsink⟩, hchain⟩, hseq⟩, hedge⟩, hpair⟩, hguard⟩ := hB
  have hn' : n ≤ l.length := by have h := hn; rw [List.size_toArray] at h; omega
  have hsz : l.toArray.size = l.length := by simp
  have hget : ∀ i : Nat, l.toArray[i]? = l[i]? := fun i => by simp
  have hselect := Region.noSelect_spec hsel
  have hpw : ∀ m, m ≤ n → (l.take m).Pairwise (fun o o' => ∀ t, o.dst = some t → o'.dst ≠ some t) := fun m hm => by
    rw [List.pairwise_iff_getElem]
    intro i j hi hj hij t ht
    rw [List.length_take] at hi hj
    rw [List.getElem_take] at ht ⊢
    exact Region.flowPair_dst (hpair i (by omega) j (by omega)) (by rw [hget]; exact List.getElem?_eq_getElem (by omega)) (by rw [hget]; exact List.getElem?_eq_getElem (by omega)) (fun e => by subst e; omega) ht
  have hputAt : ∀ (vs : Nat → Value) m, m ≤ n → ∀ j o t, j < m → l.toArray[j]? = some o → o.dst = some t → (putsN vs 0 a0 (l.take m)).tmps[t]? = a0.tmps[t]?.map (fun _ => vs j) := fun vs m hm j o t hj ho hd => by
    rw [putsN_at vs t (l.take m) 0 a0 j o (hpw m hm) (by rw [List.getElem?_take, if_pos hj, ← hget]; exact ho) hd, Nat.zero_add]
  have hputO : ∀ (vs : Nat → Value) m, m ≤ n → ∀ t, (∀ j o, j < n → l.toArray[j]? = some o → o.dst ≠ some t) → (putsN vs 0 a0 (l.take m)).tmps[t]? = a0.tmps[t]? := fun vs m hm t h =>
    putsN_other vs t _ 0 a0 fun o ho => by
      obtain ⟨q, hq'⟩ := List.mem_iff_getElem?.1 ho
      rw [List.getElem?_take] at hq'
      split at hq'
      · exact h q o (by omega) (by rw [hget]; exact hq')
      · cases hq'
  intro f
  induction f with
  | zero =>
    intro U vs listed a w hU _ hUm hF
    obtain rfl : U = [] := List.eq_nil_of_length_eq_zero hU
    have hall : ∀ i, i < n → listed.getD i false = true := fun i hi => by
      cases h : listed.getD i false with
      | true => rfl
      | false => have := (hUm i).2 ⟨hi, h⟩; simp at this
    have hl : listed = Region.marked l.toArray.size n := by
      apply Array.ext_getElem?
      intro i
      by_cases hi : i < l.toArray.size
      · have hil : i < listed.size := by rw [hF.inv.size]; exact hi
        have e2 : (Region.marked l.toArray.size n)[i]? = some (decide (i < n)) := by
          rw [List.size_toArray] at hi
          unfold Region.marked
          simp [hi]
        rw [e2, Array.getElem?_eq_getElem hil]
        by_cases hin : i < n
        · have := hall i hin
          simp [hil] at this
          simp [this, hin]
        · have := hF.inv.tail i (by omega) hi
          simp [hil] at this
          simp [this, hin]
      · rw [Array.getElem?_eq_none (by rw [hF.inv.size]; omega), Array.getElem?_eq_none (by rw [List.size_toArray] at hi; unfold Region.marked; simp; omega)]
    have ha : a = putsN vs 0 a0 (l.take n) := by
      have htm : a.tmps = (putsN vs 0 a0 (l.take n)).tmps := by
        apply Array.ext_getElem?
        intro t
        by_cases h : ∃ j o, j < n ∧ l.toArray[j]? = some o ∧ o.dst = some t
        · obtain ⟨j, o, h1, h2, h3⟩ := h
          rw [hF.slot j o t h1 h2 h3, if_pos (hall j h1), hputAt vs n (Nat.le_refl _) j o t h1 h2 h3]
        · have h' : ∀ j o, j < n → l.toArray[j]? = some o → o.dst ≠ some t := fun j o h1 h2 h3 => h ⟨j, o, h1, h2, h3⟩
          rw [hF.other t h', hputO vs n (Nat.le_refl _) t h']
      have hd : a.defers = (putsN vs 0 a0 (l.take n)).defers := by rw [putsN_defers, hF.defers]
      cases a; simp only at htm hd; cases hX : putsN vs 0 a0 (l.take n); rw [hX] at htm hd; simp only at htm hd; rw [htm, hd]
    rw [ha]
    have hdl : (l.drop n).length = l.toArray.size - n := by simp
    have := wpAny_of_seq (md := .any) (Q' := Q) (ops := l.toArray) (l.drop n) n listed (putsN vs 0 a0 (l.take n)) w (fun j => by simp [List.getElem?_drop]) (by rw [hdl, hl]; exact hseq) (ht _ vs w hall hF.join)
    rw [hdl] at this
    rwa [Nat.zero_add]
  | succ f ih =>
    intro U vs listed a w hU hnd hUm hF
    obtain ⟨i0, hi0, hleast⟩ := exists_leastM U (fun e => by rw [e] at hU; simp at hU)
    obtain ⟨hi0n, hi0u⟩ := (hUm i0).1 hi0
    have hin : ∀ i, i < n → i < listed.size := fun i hi => by rw [hF.inv.size]; omega
    have hready : i0 ∈ Region.ready .any l.toArray listed := by
      have hlt : i0 < l.toArray.size := by omega
      refine mem_ready.2 ⟨getD_in (hin _ hi0n) hi0u, l.toArray[i0], Array.getElem?_eq_getElem hlt, fun e he hbd => ?_⟩
      have h1 := hedge i0 hi0n
      rw [Array.getElem?_eq_getElem hlt] at h1
      simp only [Array.all_eq_true_iff_forall_mem] at h1
      have h2 := h1 e he
      simp only [hbd, Bool.not_true, Bool.false_or, decide_eq_true_eq] at h2
      cases h : listed.getD e.on false with
      | true => rfl
      | false =>
        have := hleast e.on ((hUm e.on).2 ⟨by omega, h⟩)
        omega
    rw [show f + 1 + (l.toArray.size - n) = (f + (l.toArray.size - n)) + 1 by omega]
    refine ⟨fun h => (by rw [h] at hready; cases hready), fun i hi => ?_⟩
    obtain ⟨hiu, o, ho, hdep⟩ := mem_ready.1 hi
    have hilt : i < n := Nat.lt_of_not_le fun h => tail_waits hsink hchain hn hF.inv _ i0 rfl hi0n (getD_in (hin _ hi0n) hi0u) i h hi
    have hiU : i ∈ U := (hUm i).2 ⟨hilt, getD_both hiu⟩
    have hinv := hF.inv.set hi hilt
    have hlist : ∀ j, (listed.setIfInBounds i true).getD j false = if j = i then true else listed.getD j false := fun j => by
      by_cases h : j = i
      · subst h; rw [if_pos rfl]; simp [hin j hilt]
      · rw [if_neg h, getD_set_ne false (Ne.symm h)]
    have hUm' : ∀ j, j ∈ U.erase i ↔ j < n ∧ (listed.setIfInBounds i true).getD j false = false := fun j => by
      rw [hnd.mem_erase_iff, hUm j, hlist j]
      by_cases h : j = i
      · simp [h]
      · simp [h]
    have hlen' : (U.erase i).length = f := by rw [List.length_erase_of_mem hiU]; omega
    have hnd' := hnd.erase i
    have hseen : ∀ t ∈ o.looksAt l.toArray, ∀ j oj, j < n → l.toArray[j]? = some oj → oj.dst = some t → i ≠ j ∧ j < i ∧ listed.getD j false = true := by
      intro t ht j oj hj hoj hd
      have hne : i ≠ j := fun e => by
        subst e
        rw [ho] at hoj; cases hoj
        exact Region.flowPair_self (hpair i hilt i hilt) ho hd ht
      have h1 := Region.flowPair_looks (hpair i hilt j hj) ho hoj hne hd ht
      obtain ⟨o', ho', e, he, hbd, hon⟩ := Region.waitsFor_spec h1.2
      rw [ho] at ho'; cases ho'
      have := hdep e he hbd
      rw [hon] at this
      exact ⟨hne, h1.1, this⟩
    have hgd := hguard i hilt
    rw [ho] at hgd
    simp only [Option.isNone_iff_eq_none] at hgd
    have hg := hgd
    have hex : execOp (putsN vs 0 a0 (l.take i)).eval o = execOp a.eval o := (seen_alike (ops := l.toArray) (fun cs bb => hselect i o cs bb ho) fun t htl => by
      by_cases h : ∃ j o, j < n ∧ l.toArray[j]? = some o ∧ o.dst = some t
      · obtain ⟨j, oj, h1, h2, h3⟩ := h
        obtain ⟨k1, k2, k3⟩ := hseen t htl j oj h1 h2 h3
        rw [hputAt vs i (by omega) j oj t k2 h2 h3, hF.slot j oj t h1 h2 h3, if_pos k3]
      · have h' : ∀ j o, j < n → l.toArray[j]? = some o → o.dst ≠ some t := fun j o h1 h2 h3 => h ⟨j, o, h1, h2, h3⟩
        rw [hputO vs i (by omega) t h', hF.other t h']).1
    have hdepD : ∀ j, j < i → Region.blindTo l.toArray i j = false → listed.getD j false = true := fun j hj hbl => by
      have hjl : j < l.toArray.size := by omega
      unfold Region.blindTo at hbl
      rw [ho, Array.getElem?_eq_getElem hjl] at hbl
      simp only at hbl
      split at hbl
      · rename_i d hdj
        have hmem : d ∈ o.looksAt l.toArray := by simpa using hbl
        exact (hseen d hmem j _ (by omega) (Array.getElem?_eq_getElem hjl) hdj).2.2
      · cases hbl
    obtain ⟨L, hL1, hL2⟩ := hq i o hilt (by rw [← hget]; exact ho) (fun j => listed.getD j false) vs w (getD_both hiu) hdepD hF.join
    refine join_opS ho hg hex hL1 (fun v w' hR0 => ?_)
    have hR := hL2 v w' hR0
    refine ih (U.erase i) (setF vs i v) _ _ _ hlen' hnd' hUm' ⟨hinv, by rw [put_size, hF.size], by rw [put_defers, hF.defers], ?_, ?_, ?_⟩
    · intro j oj t hj hoj hd
      rw [put_get, hlist j]
      by_cases hji : j = i
      · subst hji
        rw [ho] at hoj; cases hoj
        rw [if_pos hd, if_pos rfl, if_pos rfl, setF_same, hF.slot j o t hj ho hd, if_neg (by rw [getD_both hiu]; simp)]
      · have hne : o.dst ≠ some t := fun h => Region.flowPair_dst (hpair i hilt j hj) ho hoj (Ne.symm hji) h hd
        rw [if_neg hne, if_neg hji, setF_ne _ _ hji, hF.slot j oj t hj hoj hd]
    · intro t h
      rw [put_get, if_neg (h i o hilt ho), hF.other t h]
    · have e : (fun j => (listed.setIfInBounds i true).getD j false) = setF (fun j => listed.getD j false) i true := funext fun j => hlist j
      rw [e]
      exact hR
theorem wp_region_joinS {id : Nat} {W : World} (n : Nat) (J : (Nat → Bool) → (Nat → Value) → World → Prop) (hm : P.follows .mixedOrders = true) (hB : Region.relS l.toArray n = true)
    (h0 : J (fun _ => false) (fun _ => undef) W.drew)
    (hq : relAll (fun i o => ∀ (D : Nat → Bool) (vs : Nat → Value) (w : World), D i = false → (∀ j, j < i → Region.blindTo l.toArray i j = false → D j = true) → J D vs w → ∃ L : Value → World → Prop, wpList P l.toArray (JoinPostS (putsN vs 0 a0 (l.take i)) o L) [o] (putsN vs 0 a0 (l.take i)) w ∧ ∀ v w', L v w' → J (setF D i true) (setF vs i v) w') 0 (l.take n))
    (ht : ∀ (D : Nat → Bool) (vs : Nat → Value) (w : World), (∀ j, j < n → D j = true) → J D vs w → wpList P l.toArray Q (l.drop n) (putsN vs 0 a0 (l.take n)) w) :
    (Code.region id l.toArray true).wp P Q a0 W := by
  refine wp_region_any hm ?_
  have hB' := hB
  simp only [Region.relS, Bool.and_eq_true, decide_eq_true_eq] at hB'
  have hn := hB'.1.1.1.1.1.1.2
  have inv0 : HeadInv .any l.toArray n (Array.replicate l.toArray.size false) :=
    ⟨by simp, fun j oj _ hl => (by rw [getD_replicate_false] at hl; cases hl), fun t _ ht => getD_in (by simpa using ht) (getD_replicate_false _ _)⟩
  have e0 : (fun j => (Array.replicate l.toArray.size false).getD j false) = fun _ => false := funext fun j => getD_replicate_false _ _
  have h := join_runS (a0 := a0) (J := J) (Q := Q) hB
    (fun i o hi ho => by
      have := relAll.get _ 0 hq i o (by rw [List.getElem?_take, if_pos hi]; exact ho)
      rwa [Nat.zero_add] at this) ht n (List.range n) (fun _ => undef) (Array.replicate l.toArray.size false) a0 W.drew (by simp) List.nodup_range (fun i => by rw [List.mem_range]; exact ⟨fun h => ⟨h, getD_replicate_false _ _⟩, fun h => h.1⟩)
    ⟨inv0, rfl, rfl, fun j o t _ _ _ => by rw [getD_replicate_false]; rfl, fun t _ => rfl, by rw [e0]; exact h0⟩
  rwa [show n + (l.toArray.size - n) = l.toArray.size by omega] at h
end
end Go
/- One store of a made variable among the head operations of a drawn region. -/
namespace Go.Proofs.YtflchbejjofppaaGreatDoor
open Go Go.Proofs Go.RowKit
structure StJ (W : World) (c : List Value) (ty : TypeId) (zs nv : List Value) (ia is : Nat) (D : Nat → Bool) (vs : Nat → Value) (u : World) : Prop where
  later : Below W.heap.size W u
  val : ∀ j v, c[j]? = some v → D j = true → vs j = v
  ord : D is = true → D ia = true
  box : D ia = true → ∃ h, vs ia = .pointer (some ⟨h, 0, none⟩) ∧ W.heap.size ≤ h ∧ Box u h ty (if D is then nv else zs)
section
variable {W u u' : World} {c : List Value} {ty : TypeId} {zs nv : List Value} {ia is : Nat} {D : Nat → Bool} {vs : Nat → Value}
theorem StJ.start (h0 : D = fun _ => false) : StJ W c ty zs nv ia is D vs W.drew := by
  subst h0
  exact ⟨⟨rfl, rfl, rfl, Nat.le_refl _, fun _ _ => rfl⟩, (fun j v _ h => by cases h), (fun h => by cases h), (fun h => by cases h)⟩
theorem StJ.vals (h : ∀ j v, c[j]? = some v → D j = true → vs j = v) (i : Nat) {v : Value} (hk : ∀ v', c[i]? = some v' → v = v') : ∀ j v', c[j]? = some v' → setF D i true j = true → setF vs i v j = v' := fun j v' hj hd => by
  by_cases hji : j = i
  · subst hji; rw [setF_same]; exact hk v' hj
  · rw [setF_ne _ _ hji] at hd ⊢; exact h j v' hj hd
theorem StJ.quiet (h : StJ W c ty zs nv ia is D vs u) (i : Nat) (h1 : i ≠ ia) (h2 : i ≠ is) {v : Value} (hk : ∀ v', c[i]? = some v' → v = v') (hb : Below u.heap.size u u') : StJ W c ty zs nv ia is (setF D i true) (setF vs i v) u' := by
  refine ⟨h.later.trans (hb.mono h.later.size), StJ.vals h.val i hk, ?_, fun hd => ?_⟩
  · rw [setF_ne _ _ (Ne.symm h1), setF_ne _ _ (Ne.symm h2)]; exact h.ord
  rw [setF_ne _ _ (Ne.symm h1)] at hd
  obtain ⟨g, e, hl, hx⟩ := h.box hd
  rw [setF_ne _ _ (Ne.symm h1), setF_ne _ _ (Ne.symm h2)]
  exact ⟨g, e, hl, hx.later hb⟩
theorem StJ.new (h : StJ W c ty zs nv ia is D vs u) (hne : is ≠ ia) (hc : c[ia]? = none) (hDa : D ia = false) : StJ W c ty zs nv ia is (setF D ia true) (setF vs ia (.pointer (some ⟨u.heap.size, 0, none⟩))) (u.alloc (.cells zs.toArray ty)) := by
  have hD : D is = false := by
    cases h1 : D is with
    | false => rfl
    | true => rw [h.ord h1] at hDa; cases hDa
  refine ⟨h.later.trans (((Below.refl _ _).alloc (Nat.le_refl _) _).mono h.later.size), StJ.vals h.val ia (fun v' h' => by rw [hc] at h'; cases h'), (fun _ => setF_same _ _ _), fun _ => ?_⟩
  rw [setF_same, setF_ne _ _ hne, hD]
  refine ⟨_, rfl, h.later.size, ?_⟩
  have := Box.new u zs.toArray ty
  simpa using this
theorem StJ.put (h : StJ W c ty zs nv ia is D vs u) (hne : is ≠ ia) (hc : c[is]? = none) (hd : D ia = true) {g : Nat} (hg : vs ia = .pointer (some ⟨g, 0, none⟩)) (hb : Below W.heap.size u u') (hl : W.heap.size ≤ g) (hx : Box u' g ty nv) {v : Value} : StJ W c ty zs nv ia is (setF D is true) (setF vs is v) u' := by
  refine ⟨h.later.trans hb, StJ.vals h.val is (fun v' h' => by rw [hc] at h'; cases h'), (fun _ => by rw [setF_ne _ _ (Ne.symm hne)]; exact hd), fun _ => ?_⟩
  rw [setF_same, setF_ne _ _ (Ne.symm hne)]
  exact ⟨g, hg, hl, hx⟩
end
end Go.Proofs.YtflchbejjofppaaGreatDoor
/- Walks: the reference's gcd, Of. -/
namespace Go.Proofs.YtflchbejjofppaaGreatDoor.Nu
open Go Go.Proofs Go.RowKit Go.Proofs.YtflchbejjofppaaGreatDoor
set_option maxRecDepth 100000 in
set_option maxHeartbeats 4000000 in
theorem gcd158 (w : World) (a b : Nat) (ha : a ≤ 9223372036854775807) (hb : b ≤ 9223372036854775807) : Calls Tryz.prog 158 #[.int .i64 (a : Int), .int .i64 (b : Int)] w (Ret (.int .i64 ((Nat.gcd a b : Nat) : Int)) w) := by
  obtain ⟨G, hG⟩ : ∃ G, Nat.gcd a b = G := ⟨_, rfl⟩
  rw [hG]
  go_enter Tryz.func158, Tryz.ntmps158
  go_wp2_with fail
  go_loopw [0, 1] (fun x y wr => ∃ m k : Nat, x = .int .i64 (m : Int) ∧ y = .int .i64 (k : Int) ∧ m ≤ 9223372036854775807 ∧ k ≤ 9223372036854775807 ∧ Nat.gcd m k = G ∧ Below w.heap.size w wr) (fun _ y _ => (intOf y).toNat)
  case atStart => exact ⟨a, b, rfl, rfl, ha, hb, hG, Below.refl _ _⟩
  case round =>
    obtain ⟨m, k, rfl, rfl, hm, hk, hg, hbe⟩ := hrel
    have HB := Lib.hid hbe
    have HG := Lib.hid hg
    clear hbe hg hG ha hb
    by_cases h0 : k = 0
    · subst h0
      have e : m = G := by have := HG.out; rwa [Nat.gcd_zero_right] at this
      subst e
      go_wp2_with fail
      go_ret
      exact ⟨rfl, HB.out⟩
    · have HR := Lib.hid (show Nat.gcd k (m % k) = G by rw [← HG.out, Nat.gcd_comm m k, Nat.gcd_rec k m, Nat.gcd_comm])
      have hlt := Nat.mod_lt m (show 0 < k by omega)
      have d0 : decide (0 < k) = true := decide_eq_true (by omega)
      have d1 : decide ((0 : Int) < (k : Int)) = true := decide_eq_true (by omega)
      have d2 : ((k : Int) == 0) = false := beq_eq_false_iff_ne.2 (by omega)
      have km : (m : Int).tmod (k : Int) = ((m % k : Nat) : Int) := by rw [Int.tmod_eq_emod_of_nonneg (by omega)]; exact (Int.natCast_emod m k).symm
      generalize m % k = r at *
      have HK := Lib.hid (show 0 < k by omega)
      go_wp2_with fail
      refine wp_region_later (by kernel_rfl) (by kernel_rfl) ?_
      repeat go_big_quiet_step (fail)
      refine wpQuiet_nil ?_
      rintro w2 ⟨⟨_, hb2⟩, rfl⟩
      replace HB := Lib.hid (HB.out.trans (hb2.mono HB.out.size))
      clear hb2
      go_wp2_with fail
      go_roundw
      case rel => exact ⟨k, r, rfl, rfl, hk, by omega, HR.out, HB.out⟩
      case measure => simp [intOf]; omega
end Go.Proofs.YtflchbejjofppaaGreatDoor.Nu
/- Walks: the reference's Of. -/
namespace Go.Proofs.YtflchbejjofppaaGreatDoor.Nu
open Go Go.Proofs Go.RowKit Go.Proofs.YtflchbejjofppaaGreatDoor
theorem tdiv_gcd (n : Int) (d : Nat) (hd : 0 < d) : n.tdiv ((Nat.gcd n.natAbs d : Nat) : Int) = (mkRat n d).num ∧ (d : Int).tdiv ((Nat.gcd n.natAbs d : Nat) : Int) = ((mkRat n d).den : Int) := by
  have h := mk_num (z1 := n) (z2 := (d : Int)) (by omega)
  simp only [Int.natAbs_natCast] at h
  rw [h.1, h.2]
  refine ⟨Int.tdiv_eq_ediv_of_dvd ?_, Int.tdiv_eq_ediv_of_dvd ?_⟩
  · exact Int.ofNat_dvd_left.2 (Nat.gcd_dvd_left _ _)
  · exact Int.natCast_dvd_natCast.2 (Nat.gcd_dvd_right _ _)
def fracT (d : Nat) : List UInt8 := if d = 1 then [] else 47 :: Lib.decDigits d
theorem ratL_eq (q : Rat) : ratL q = Lib.itoa q.num ++ fracT q.den := rfl
set_option maxRecDepth 100000 in
set_option maxHeartbeats 4000000 in
theorem of138 (w : World) (n : Int) (d : Nat) (h1 : -4000000000000000000 ≤ n) (h2 : n ≤ 4000000000000000000) (hd : 0 < d) (hd2 : d ≤ 4000000000000000000) : Calls Tryz.prog 138 #[.int .i64 n, .int .i64 (d : Int)] w (Ret (.string (txq (mkRat n d))) w) := by
  have HG := Lib.hid (fun (w1 : World) => gcd158 w1 n.natAbs d (by omega) (by omega))
  obtain ⟨kq, ke⟩ := tdiv_gcd n d hd
  have hg0 : 0 < Nat.gcd n.natAbs d := Nat.gcd_pos_of_pos_right _ hd
  have hqa : (mkRat n d).num.natAbs ≤ n.natAbs := by
    rw [← kq, Int.natAbs_tdiv]; exact Nat.div_le_self _ _
  have hea : (mkRat n d).den ≤ d := by
    have := congrArg Int.natAbs ke
    rw [Int.natAbs_tdiv, Int.natAbs_natCast, Int.natAbs_natCast, Int.natAbs_natCast] at this
    rw [← this]; exact Nat.div_le_self _ _
  have he0 : 0 < (mkRat n d).den := (mkRat n d).den_pos
  have HR := Lib.hid (show txq (mkRat n d) = tx (Lib.itoa (mkRat n d).num ++ fracT (mkRat n d).den) from rfl)
  generalize (mkRat n d).num = q at *
  generalize (mkRat n d).den = e at *
  generalize txq (mkRat n d) = R at *
  generalize Nat.gcd n.natAbs d = g at *
  have hq1 : -4000000000000000000 ≤ q ∧ q ≤ 4000000000000000000 := by omega
  have he1 : e ≤ 4000000000000000000 := by omega
  have HD := Lib.hid (fun (w1 : World) (m : Nat) (hm : m ≤ 9223372036854775807) => (by
    have h := decimal79 w1 m 1 hm (by decide) (by decide)
    rw [padTo_one] at h
    exact h : Calls Tryz.prog 79 #[.int .i64 (m : Int), .int .i64 1] w1 fun e w' => e = .returned (.string (tx (Lib.decDigits m))) ∧ w1 = w'))
  have HDQ := Lib.hid (fun (w1 : World) => HD.out w1 q.natAbs (by omega))
  have HDE := Lib.hid (fun (w1 : World) => HD.out w1 e (by omega))
  have d1 : decide (n < -4000000000000000000) = false := decide_eq_false (by omega)
  have d2 : decide (4000000000000000000 < n) = false := decide_eq_false (by omega)
  have d3 : decide ((d : Int) < -4000000000000000000) = false := decide_eq_false (by omega)
  have d4 : decide ((4000000000000000000 : Int) < (d : Int)) = false := decide_eq_false (by omega)
  have d5 : decide (4000000000000000000 < d) = false := decide_eq_false (by omega)
  have d6 : decide ((d : Int) < 0) = false := decide_eq_false (by omega)
  have k1 : IntKind.i64.wrap (-n) = -n := IntWalk.i64_in _ (by omega)
  have k2 : max n (-n) = (n.natAbs : Int) := by omega
  have k8 : ¬ g = 0 := by omega
  have k3 : ((g : Int) == 0) = false := beq_eq_false_iff_ne.2 (by omega)
  have k4 : IntKind.i64.wrap (-q) = -q := IntWalk.i64_in _ (by omega)
  have k5 : max q (-q) = (q.natAbs : Int) := by omega
  have k6 : IntKind.i64.wrap q = q := IntWalk.i64_in _ (by omega)
  have k7 : IntKind.i64.wrap (e : Int) = e := IntWalk.i64_in _ (by omega)
  have hlq : (Lib.decDigits q.natAbs).length ≤ 19 := (dec_len_le (by decide)).2 (by rw [show (10 : Nat) ^ 19 = 10000000000000000000 by decide]; omega)
  have hle : (Lib.decDigits e).length ≤ 19 := (dec_len_le (by decide)).2 (by rw [show (10 : Nat) ^ 19 = 10000000000000000000 by decide]; omega)
  have hway : ∃ (p r : Bool) (sg fr : List UInt8), decide (q < 0) = p ∧ decide (1 < e) = r ∧ decide ((1 : Int) < (e : Int)) = r ∧ Lib.itoa q = sg ++ Lib.decDigits q.natAbs ∧ fracT e = fr ∧ ((p = true ∧ sg = [45]) ∨ (p = false ∧ sg = [])) ∧ ((r = true ∧ fr = 47 :: Lib.decDigits e) ∨ (r = false ∧ fr = [])) := by
    refine ⟨_, _, (if q < 0 then [45] else []), _, rfl, rfl, ?_, ?_, rfl, ?_, ?_⟩
    · by_cases h : 1 < e
      · rw [decide_eq_true h, decide_eq_true (by omega)]
      · rw [decide_eq_false h, decide_eq_false (by omega)]
    · by_cases h : q < 0
      · rw [if_pos h, itoa_ng h]; rfl
      · rw [if_neg h, itoa_nn (Int.not_lt.1 h), toNat_abs (Int.not_lt.1 h)]; rfl
    · by_cases h : q < 0
      · exact .inl ⟨decide_eq_true h, if_pos h⟩
      · exact .inr ⟨decide_eq_false h, if_neg h⟩
    · unfold fracT
      by_cases h : 1 < e
      · exact .inl ⟨decide_eq_true h, if_neg (by omega)⟩
      · exact .inr ⟨decide_eq_false h, if_pos (by omega)⟩
  obtain ⟨p, r, sg, fr, d7, d8, d9, e1, e2, hp, hr⟩ := hway
  rw [e1, e2] at HR
  have hs1 := tx_size (Lib.decDigits q.natAbs)
  have hs2 := tx_size (Lib.decDigits e)
  obtain ⟨A, hA⟩ : ∃ A, Lib.decDigits q.natAbs = A := ⟨_, rfl⟩
  obtain ⟨E, hE⟩ : ∃ E, Lib.decDigits e = E := ⟨_, rfl⟩
  rw [hA] at HR HDQ hs1 hlq
  rw [hE] at HDE hs2 hle hr
  generalize q.natAbs = m at *
  generalize n.natAbs = nn at *
  clear h1 h2 hd hd2 hqa hea hq1 he1 e1 e2 HD hA hE hg0 he0
  have HSA := Lib.hid (show ∀ X : List UInt8, X = sg → tx X ++ tx A = tx (sg ++ A) from fun X h => by rw [h, tx_app])
  have hsz1 : (tx (sg ++ A)).size ≤ 30 := by
    rw [tx_size, List.length_append]
    rcases hp with ⟨_, rfl⟩ | ⟨_, rfl⟩ <;> simp <;> omega
  have HS2 := Lib.hid (tx_app (sg ++ A) [47])
  have HS3 := Lib.hid (tx_app (sg ++ A ++ [47]) E)
  have hsz2 : (tx (sg ++ A ++ [47])).size ≤ 31 := by
    rw [tx_size] at hsz1 ⊢
    rw [List.length_append, List.length_singleton]; omega
  have hs47 : (⟨#[47]⟩ : ByteArray).size = 1 := rfl
  have hs45 : (⟨#[45]⟩ : ByteArray).size = 1 := rfl
  have hs0 : (⟨#[]⟩ : ByteArray).size = 0 := rfl
  have c2 : tx (sg ++ A) ++ ⟨#[47]⟩ = tx (sg ++ A ++ [47]) := HS2.out
  have c3 := HS3.out
  have HR1 := Lib.hid (show r = true → tx (sg ++ A ++ [47] ++ E) = R from fun h => by
    rcases hr with ⟨_, h2⟩ | ⟨h2, _⟩
    · rw [HR.out, h2]; simp
    · rw [h] at h2; cases h2)
  have HR2 := Lib.hid (show r = false → tx (sg ++ A) = R from fun h => by
    rcases hr with ⟨h2, _⟩ | ⟨_, h2⟩
    · rw [h] at h2; cases h2
    · rw [HR.out, h2]; simp)
  have HC1 := Lib.hid (show (p = true → ⟨#[45]⟩ ++ tx A = tx (sg ++ A)) ∧ (p = false → ⟨#[]⟩ ++ tx A = tx (sg ++ A)) from by
    rcases hp with ⟨h, h2⟩ | ⟨h, h2⟩
    · exact ⟨fun _ => HSA.out [45] h2.symm, fun h3 => (by rw [h] at h3; cases h3)⟩
    · exact ⟨fun h3 => (by rw [h] at h3; cases h3), fun _ => HSA.out [] h2.symm⟩)
  generalize tx (sg ++ A ++ [47] ++ E) = S3 at *
  generalize tx (sg ++ A ++ [47]) = S2 at *
  generalize tx (sg ++ A) = S1 at *
  generalize tx A = SA at *
  generalize tx E = SE at *
  clear HSA HS2 HS3 HR hp hr
  cases p with
  | true =>
    have c1 := HC1.out.1 rfl
    clear HC1
    cases r with
    | true =>
      have hR := HR1.out rfl
      subst hR
      clear HR1 HR2
      go_enter Tryz.func138, Tryz.ntmps138
      go_wp2_with fail
      refine (HG.out _).mono ?_
      rintro e4 w4 ⟨rfl, hb⟩
      have HB := Lib.hid hb
      clear hb
      go_wp2_with fail
      refine wp_region_later (by kernel_rfl) (by kernel_rfl) ?_
      repeat go_big_quiet_step (fail)
      refine wpQuiet_nil ?_
      rintro w2 ⟨⟨_, hb2⟩, rfl⟩
      replace HB := Lib.hid (HB.out.trans (hb2.mono HB.out.size))
      clear hb2
      go_wp2_with fail
      refine (HDQ.out _).mono ?_
      rintro e5 w5 ⟨rfl, rfl⟩
      go_wp2_with fail
      refine (HDE.out _).mono ?_
      rintro e6 w6 ⟨rfl, rfl⟩
      go_wp2_with fail
      go_ret
      exact ⟨rfl, HB.out⟩
    | false =>
      have hR := HR2.out rfl
      subst hR
      clear HR1 HR2
      go_enter Tryz.func138, Tryz.ntmps138
      go_wp2_with fail
      refine (HG.out _).mono ?_
      rintro e4 w4 ⟨rfl, hb⟩
      have HB := Lib.hid hb
      clear hb
      go_wp2_with fail
      refine wp_region_later (by kernel_rfl) (by kernel_rfl) ?_
      repeat go_big_quiet_step (fail)
      refine wpQuiet_nil ?_
      rintro w2 ⟨⟨_, hb2⟩, rfl⟩
      replace HB := Lib.hid (HB.out.trans (hb2.mono HB.out.size))
      clear hb2
      go_wp2_with fail
      refine (HDQ.out _).mono ?_
      rintro e5 w5 ⟨rfl, rfl⟩
      go_wp2_with fail
      go_ret
      exact ⟨rfl, HB.out⟩
  | false =>
    have c1 := HC1.out.2 rfl
    clear HC1
    cases r with
    | true =>
      have hR := HR1.out rfl
      subst hR
      clear HR1 HR2
      go_enter Tryz.func138, Tryz.ntmps138
      go_wp2_with fail
      refine (HG.out _).mono ?_
      rintro e4 w4 ⟨rfl, hb⟩
      have HB := Lib.hid hb
      clear hb
      go_wp2_with fail
      refine wp_region_later (by kernel_rfl) (by kernel_rfl) ?_
      repeat go_big_quiet_step (fail)
      refine wpQuiet_nil ?_
      rintro w2 ⟨⟨_, hb2⟩, rfl⟩
      replace HB := Lib.hid (HB.out.trans (hb2.mono HB.out.size))
      clear hb2
      go_wp2_with fail
      refine (HDQ.out _).mono ?_
      rintro e5 w5 ⟨rfl, rfl⟩
      go_wp2_with fail
      refine (HDE.out _).mono ?_
      rintro e6 w6 ⟨rfl, rfl⟩
      go_wp2_with fail
      go_ret
      exact ⟨rfl, HB.out⟩
    | false =>
      have hR := HR2.out rfl
      subst hR
      clear HR1 HR2
      go_enter Tryz.func138, Tryz.ntmps138
      go_wp2_with fail
      refine (HG.out _).mono ?_
      rintro e4 w4 ⟨rfl, hb⟩
      have HB := Lib.hid hb
      clear hb
      go_wp2_with fail
      refine wp_region_later (by kernel_rfl) (by kernel_rfl) ?_
      repeat go_big_quiet_step (fail)
      refine wpQuiet_nil ?_
      rintro w2 ⟨⟨_, hb2⟩, rfl⟩
      replace HB := Lib.hid (HB.out.trans (hb2.mono HB.out.size))
      clear hb2
      go_wp2_with fail
      refine (HDQ.out _).mono ?_
      rintro e5 w5 ⟨rfl, rfl⟩
      go_wp2_with fail
      go_ret
      exact ⟨rfl, HB.out⟩
end Go.Proofs.YtflchbejjofppaaGreatDoor.Nu
/- Walks: the reference's Sign, Neg. -/
namespace Go.Proofs.YtflchbejjofppaaGreatDoor.Nu
open Go Go.Proofs Go.RowKit Go.Proofs.YtflchbejjofppaaGreatDoor
theorem sgn_neg {q : Rat} (h : q < 0) : q.num.sign = -1 := by
  have := Rat.num_nonneg (q := q)
  exact Int.sign_eq_neg_one_of_neg (by grind)
theorem sgn_pos {q : Rat} (h : 0 < q) : q.num.sign = 1 := by
  have h1 := Rat.num_nonneg (q := q)
  have h2 : q.num ≠ 0 := fun e => by
    have := Rat.num_eq_zero.1 e
    grind
  exact Int.sign_eq_one_of_pos (by grind)
set_option maxRecDepth 100000 in
set_option maxHeartbeats 1000000 in
theorem rsign26 (w : World) (q : Rat) (hl : (ratL q).length ≤ 1000000000) : Calls Tryz.prog 26 #[.string (txq q)] w fun e w' => e = .returned (.int .i64 q.num.sign) ∧ w = w' := by
  have hsz : (txq q).size = (ratL q).length := tx_size _
  have hlt : 0 < (ratL q).length := List.length_pos_iff.2 (ratL_ne q)
  have hi : ∀ (w : World), (Instr.index 37 (.string (txq q)) (.int .i64 0)).run Tryz.prog w = .ok (.int .u8 ((ratL q)[0].toNat : Int)) w := fun w => run_idx (P := Tryz.prog) (t := 37) Tryz.underlying37 _ 0 hlt w
  have hway : (((txq q).toList == [48]) = true ∧ q.num.sign = 0) ∨ (((txq q).toList == [48]) = false ∧ (((ratL q)[0].toNat : Int) == 45) = true ∧ q.num.sign = -1) ∨ (((txq q).toList == [48]) = false ∧ (((ratL q)[0].toNat : Int) == 45) = false ∧ q.num.sign = 1) := by
    unfold txq
    rw [tx_beq]
    by_cases h0 : q = 0
    · subst h0
      exact .inl ⟨decide_eq_true ratL_zero, rfl⟩
    · have h1 : decide (ratL q = [48]) = false := decide_eq_false (fun h => h0 (ratL_eq_zero.1 h))
      have hh : (ratL q).head? = some (ratL q)[0] := by rw [List.head?_eq_getElem?, List.getElem?_eq_getElem hlt]
      by_cases hn : q < 0
      · refine .inr (.inl ⟨h1, ?_, sgn_neg hn⟩)
        have : (ratL q)[0] = 45 := by
          have e : (ratL q).head? = some 45 := by rw [ratL_neg hn]; rfl
          rw [hh] at e
          injection e
        rw [this]; rfl
      · refine .inr (.inr ⟨h1, ?_, sgn_pos (by grind)⟩)
        refine beq_eq_false_iff_ne.2 (fun e => ?_)
        have h2 := ratL_head (q := q) (by grind)
        rw [hh] at h2
        exact h2 (congrArg some (UInt8.toNat_inj.1 (by rw [show (45 : UInt8).toNat = 45 from rfl]; omega)))
  generalize ((ratL q)[0].toNat : Int) = c at *
  generalize (ratL q).length = n at *
  generalize txq q = X at *
  generalize q.num.sign = s at *
  rcases hway with ⟨d0, rfl⟩ | ⟨d0, d1, rfl⟩ | ⟨d0, d1, rfl⟩
  all_goals
    go_enter Tryz.func26, Tryz.ntmps26
    go_wp2_with fail
    go_ret
    exact ⟨rfl, rfl⟩
set_option maxRecDepth 100000 in
set_option maxHeartbeats 1000000 in
theorem rneg110 (w : World) (q : Rat) (hl : (ratL q).length ≤ 100000000) : Calls Tryz.prog 110 #[.string (txq q)] w fun e w' => e = .returned (.string (txq (-q))) ∧ w = w' := by
  have HS := Lib.hid (fun (w1 : World) => rsign26 w1 q (by omega))
  have hsz : (txq q).size = (ratL q).length := tx_size _
  have hlt : 0 < (ratL q).length := List.length_pos_iff.2 (ratL_ne q)
  have hway : (q.num.sign = -1 ∧ (txq q).extract 1 (ratL q).length = txq (-q)) ∨ (q.num.sign = 0 ∧ txq q = txq (-q)) ∨ (q.num.sign = 1 ∧ ⟨#[45]⟩ ++ txq q = txq (-q)) := by
    by_cases h0 : q = 0
    · subst h0; exact .inr (.inl ⟨rfl, by rw [show (-0 : Rat) = 0 by grind]⟩)
    · by_cases hn : q < 0
      · refine .inl ⟨sgn_neg hn, ?_⟩
        unfold txq
        rw [tx_extract, List.take_length, ratL_neg hn]; rfl
      · refine .inr (.inr ⟨sgn_pos (by grind), ?_⟩)
        unfold txq
        rw [ratL_neg (q := -q) (by grind), show - -q = q by grind]
        exact tx_app [45] _
  generalize (ratL q).length = n at *
  generalize txq q = X at *
  generalize txq (-q) = Y at *
  generalize q.num.sign = s at *
  have hs45 : (⟨#[45]⟩ : ByteArray).size = 1 := rfl
  rcases hway with ⟨rfl, hx⟩ | ⟨rfl, hx⟩ | ⟨rfl, hx⟩
  · go_enter Tryz.func110, Tryz.ntmps110
    go_wp2_with fail
    refine (HS.out _).mono ?_
    rintro e4 w4 ⟨rfl, rfl⟩
    go_wp2_with fail
    go_ret
    exact ⟨rfl, rfl⟩
  · subst hx
    go_enter Tryz.func110, Tryz.ntmps110
    go_wp2_with fail
    refine (HS.out _).mono ?_
    rintro e4 w4 ⟨rfl, rfl⟩
    go_wp2_with fail
    refine (HS.out _).mono ?_
    rintro e4 w4 ⟨rfl, rfl⟩
    go_wp2_with fail
    go_ret
    exact ⟨rfl, rfl⟩
  · go_enter Tryz.func110, Tryz.ntmps110
    go_wp2_with fail
    refine (HS.out _).mono ?_
    rintro e4 w4 ⟨rfl, rfl⟩
    go_wp2_with fail
    refine (HS.out _).mono ?_
    rintro e4 w4 ⟨rfl, rfl⟩
    go_wp2_with fail
    go_ret
    exact ⟨rfl, rfl⟩
end Go.Proofs.YtflchbejjofppaaGreatDoor.Nu
