/- Lemmas on the way to the law TopChanges (part 11): Rc WNy WNz WOa WOb -/
import Derived.Test.YtflchbejjofppaaGreatDoorTopChangesP09
import Derived.Test.YtflchbejjofppaaGreatDoorTopChangesP10
import Derived.Test.YtflchbejjofppaaGreatDoorTopChangesP08
set_option linter.unusedVariables false
set_option linter.unusedSimpArgs false

/- A region that draws its order, of whose head operations one calls a function that writes memory; the others only read, and read the same before and after the call. -/
namespace Go
open Go.RowKit
section
structure CallFlow (ops : Array Oper) (n b : Nat) (ob : Oper) (W : World) (a0 A : Act) (D : Value → World → Prop) (listed : Array Bool) (a : Act) (w : World) (v : Value) : Prop where
  inv : HeadInv .any ops n listed
  size : a.tmps.size = a0.tmps.size
  defers : a.defers = a0.defers
  slot : ∀ j o t, j < n → ops[j]? = some o → o.dst = some t → j ≠ b → a.tmps[t]? = if listed.getD j false = true then A.tmps[t]? else a0.tmps[t]?
  slotb : ∀ t, ob.dst = some t → a.tmps[t]? = if listed.getD b false = true then a0.tmps[t]?.map (fun _ => v) else a0.tmps[t]?
  other : ∀ t, (∀ j o, j < n → ops[j]? = some o → o.dst ≠ some t) → a.tmps[t]? = a0.tmps[t]?
  wld : (listed.getD b false = true → D v w) ∧ (listed.getD b false = false → w = W)
variable {P : Program} {l : List Oper} {n b : Nat} {ob : Oper} {W : World} {a0 A : Act} {D : Value → World → Prop} {fn : FuncId} {args : Array Value} {Q : Exit → Act → World → Prop}
theorem callflow_run (hB : Region.flowB l.toArray n b = true) (hob : l[b]? = some ob)
    (hq : ∀ w, (w = W ∨ ∃ v, D v w) → wpQuiet P l.toArray (fun w' => w' = w) (fun a' => a' = A) (headsOf l n b) a0)
    (hb : (execOp A.eval ob).run P W = .ok (.enter fn args) W) (hc : Calls P fn args W fun e w' => ∃ v, e = .returned v ∧ D v w')
    (ht : ∀ v w, D v w → wpList P l.toArray Q (l.drop n) (A.put ob.dst v) w) :
    ∀ (f : Nat) (U : List Nat) (listed : Array Bool) (a : Act) (w : World) (v : Value), U.length = f → U.Nodup → (∀ i, i ∈ U ↔ i < n ∧ listed.getD i false = false) →
      CallFlow l.toArray n b ob W a0 A D listed a w v → wpAny P .any l.toArray Q (f + (l.toArray.size - n)) listed a w := by
  simp only [Region.flowB, Bool.and_eq_true, decide_eq_true_eq, List.all_eq_true, List.mem_range] at hB
  obtain ⟨⟨⟨⟨⟨⟨⟨⟨⟨hsel, hn⟩, hbn⟩, hsink⟩, hchain⟩, hseq⟩, hedge⟩, hpair⟩, hguard⟩, hblind⟩ := hB
  have hn' : n ≤ l.length := by have h := hn; rw [List.size_toArray] at h; omega
  have hsz : l.toArray.size = l.length := by simp
  have hget : ∀ i : Nat, l.toArray[i]? = l[i]? := fun i => by simp
  have hselect := Region.noSelect_spec hsel
  have hpw : (headsOf l n b).Pairwise (fun o o' => ∀ t, o.dst = some t → o'.dst ≠ some t) := by
    rw [List.pairwise_iff_getElem]
    intro i j hi hj hij t ht
    obtain ⟨i', h1, h2, h3, h4⟩ := headsOf_from hbn hn' (List.getElem?_eq_getElem hi)
    obtain ⟨j', k1, k2, k3, k4⟩ := headsOf_from hbn hn' (List.getElem?_eq_getElem hj)
    exact Region.flowPair_dst (hpair i' h1 j' k1) (by rw [hget]; exact h3) (by rw [hget]; exact k3) (fun e => by subst e; omega) ht
  have hA := quiet_text _ _ (hq W (.inl rfl)) hpw
  have hAo : ∀ t, (∀ j o, j < n → l.toArray[j]? = some o → j ≠ b → o.dst ≠ some t) → A.tmps[t]? = a0.tmps[t]? := fun t h => hA.1 t fun o ho => by
    obtain ⟨q, hq'⟩ := List.mem_iff_getElem?.1 ho
    obtain ⟨j, h1, h2, h3, _⟩ := headsOf_from hbn hn' hq'
    exact h j o h1 (by rw [hget]; exact h3) h2
  have hAs := hA.2.1
  have hAd := hA.2.2.1
  have hobA : l.toArray[b]? = some ob := by rw [hget]; exact hob
  intro f
  induction f with
  | zero =>
    intro U listed a w vb hU _ hUm hF
    obtain rfl : U = [] := List.eq_nil_of_length_eq_zero hU
    have hall : ∀ i, i < n → listed.getD i false = true := fun i hi => by
      cases h : listed.getD i false with
      | true => rfl
      | false => have := (hUm i).2 ⟨hi, h⟩; simp at this
    have hl : listed = Region.marked l.toArray.size n := by
      apply Array.ext_getElem?
      intro i
      by_cases hi : i < l.toArray.size
      · have hil : i < listed.size := by rw [hF.inv.size]; exact hi
        have e2 : (Region.marked l.toArray.size n)[i]? = some (decide (i < n)) := by
          rw [List.size_toArray] at hi
          unfold Region.marked
          simp [hi]
        rw [e2, Array.getElem?_eq_getElem hil]
        by_cases hin : i < n
        · have := hall i hin
          simp [hil] at this
          simp [this, hin]
        · have := hF.inv.tail i (by omega) hi
          simp [hil] at this
          simp [this, hin]
      · rw [Array.getElem?_eq_none (by rw [hF.inv.size]; omega), Array.getElem?_eq_none (by rw [List.size_toArray] at hi; unfold Region.marked; simp; omega)]
    have hbt := hall b hbn
    have ha : a = A.put ob.dst vb := by
      have htm : a.tmps = (A.put ob.dst vb).tmps := by
        apply Array.ext_getElem?
        intro t
        rw [put_get]
        by_cases hbd : ob.dst = some t
        · rw [if_pos hbd, hF.slotb t hbd, if_pos hbt]
          by_cases h : t < a0.tmps.size
          · rw [Array.getElem?_eq_getElem h, Array.getElem?_eq_getElem (by rw [hAs]; exact h)]; rfl
          · rw [Array.getElem?_eq_none (by omega), Array.getElem?_eq_none (by rw [hAs]; omega)] <;> rfl
        · rw [if_neg hbd]
          by_cases h : ∃ j o, j < n ∧ l.toArray[j]? = some o ∧ o.dst = some t
          · obtain ⟨j, o, h1, h2, h3⟩ := h
            have hjb : j ≠ b := fun e => by subst e; rw [hobA] at h2; cases h2; exact hbd h3
            rw [hF.slot j o t h1 h2 h3 hjb, if_pos (hall j h1)]
          · have h' : ∀ j o, j < n → l.toArray[j]? = some o → o.dst ≠ some t := fun j o h1 h2 h3 => h ⟨j, o, h1, h2, h3⟩
            rw [hF.other t h', hAo t fun j o h1 h2 _ => h' j o h1 h2]
      have hd : a.defers = (A.put ob.dst vb).defers := by rw [put_defers, hAd, hF.defers]
      cases a; simp only at htm hd; cases hX : A.put ob.dst vb; rw [hX] at htm hd; simp only at htm hd; rw [htm, hd]
    rw [ha]
    have hdl : (l.drop n).length = l.toArray.size - n := by simp
    have := wpAny_of_seq (md := .any) (Q' := Q) (ops := l.toArray) (l.drop n) n listed (A.put ob.dst vb) w (fun j => by simp [List.getElem?_drop]) (by rw [hdl, hl]; exact hseq) (ht vb w (hF.wld.1 hbt))
    rw [hdl] at this
    rwa [Nat.zero_add]
  | succ f ih =>
    intro U listed a w vb hU hnd hUm hF
    obtain ⟨i0, hi0, hleast⟩ := exists_leastM U (fun e => by rw [e] at hU; simp at hU)
    obtain ⟨hi0n, hi0u⟩ := (hUm i0).1 hi0
    have hin : ∀ i, i < n → i < listed.size := fun i hi => by rw [hF.inv.size]; omega
    have hready : i0 ∈ Region.ready .any l.toArray listed := by
      have hlt : i0 < l.toArray.size := by omega
      refine mem_ready.2 ⟨getD_in (hin _ hi0n) hi0u, l.toArray[i0], Array.getElem?_eq_getElem hlt, fun e he hbd => ?_⟩
      have h1 := hedge i0 hi0n
      rw [Array.getElem?_eq_getElem hlt] at h1
      simp only [Array.all_eq_true_iff_forall_mem] at h1
      have h2 := h1 e he
      simp only [hbd, Bool.not_true, Bool.false_or, decide_eq_true_eq] at h2
      cases h : listed.getD e.on false with
      | true => rfl
      | false =>
        have := hleast e.on ((hUm e.on).2 ⟨by omega, h⟩)
        omega
    rw [show f + 1 + (l.toArray.size - n) = (f + (l.toArray.size - n)) + 1 by omega]
    refine ⟨fun h => (by rw [h] at hready; cases hready), fun i hi => ?_⟩
    obtain ⟨hiu, o, ho, hdep⟩ := mem_ready.1 hi
    have hilt : i < n := Nat.lt_of_not_le fun h => tail_waits hsink hchain hn hF.inv _ i0 rfl hi0n (getD_in (hin _ hi0n) hi0u) i h hi
    have hiU : i ∈ U := (hUm i).2 ⟨hilt, getD_both hiu⟩
    have hinv := hF.inv.set hi hilt
    have hlist : ∀ j, (listed.setIfInBounds i true).getD j false = if j = i then true else listed.getD j false := fun j => by
      by_cases h : j = i
      · subst h; rw [if_pos rfl]; simp [hin j hilt]
      · rw [if_neg h, getD_set_ne false (Ne.symm h)]
    have hUm' : ∀ j, j ∈ U.erase i ↔ j < n ∧ (listed.setIfInBounds i true).getD j false = false := fun j => by
      rw [hnd.mem_erase_iff, hUm j, hlist j]
      by_cases h : j = i
      · simp [h]
      · simp [h]
    have hlen' : (U.erase i).length = f := by rw [List.length_erase_of_mem hiU]; omega
    have hnd' := hnd.erase i
    have hseen : ∀ t ∈ o.looksAt l.toArray, ∀ j oj, j < n → l.toArray[j]? = some oj → oj.dst = some t → i ≠ j ∧ j < i ∧ listed.getD j false = true := by
      intro t ht j oj hj hoj hd
      have hne : i ≠ j := fun e => by
        subst e
        rw [ho] at hoj; cases hoj
        exact Region.flowPair_self (hpair i hilt i hilt) ho hd ht
      have h1 := Region.flowPair_looks (hpair i hilt j hj) ho hoj hne hd ht
      obtain ⟨o', ho', e, he, hbd, hon⟩ := Region.waitsFor_spec h1.2
      rw [ho] at ho'; cases ho'
      have := hdep e he hbd
      rw [hon] at this
      exact ⟨hne, h1.1, this⟩
    by_cases hib : i = b
    · subst hib
      rw [hobA] at ho; cases ho
      have hg : ob.guard = none := by rw [hobA] at hguard; simpa using hguard
      obtain rfl : w = W := hF.wld.2 (getD_both hiu)
      have hex : execOp a.eval ob = execOp A.eval ob := (seen_alike (ops := l.toArray) (fun cs bb => hselect i ob cs bb hobA) fun t htl => by
        by_cases h : ∃ j o, j < n ∧ l.toArray[j]? = some o ∧ o.dst = some t
        · obtain ⟨j, oj, h1, h2, h3⟩ := h
          obtain ⟨k1, k2, k3⟩ := hseen t htl j oj h1 h2 h3
          rw [hF.slot j oj t h1 h2 h3 (Ne.symm k1), if_pos k3]
        · have h' : ∀ j o, j < n → l.toArray[j]? = some o → o.dst ≠ some t := fun j o h1 h2 h3 => h ⟨j, o, h1, h2, h3⟩
          rw [hF.other t h', hAo t fun j o h1 h2 _ => h' j o h1 h2]).1
      unfold wpOp
      simp only [hobA]
      rw [if_pos (by simp [Region.wanted, hg])]
      refine .inl ?_
      unfold Oper.wp
      rw [hex, hb, Oper.upon_enter]
      refine hc.mono ?_
      rintro _ w' ⟨v', rfl, hD⟩
      refine ih (U.erase i) _ _ _ v' hlen' hnd' hUm' ⟨hinv, by rw [put_size, hF.size], by rw [put_defers, hF.defers], ?_, ?_, ?_, fun _ => hD, fun h => (by rw [hlist i, if_pos rfl] at h; cases h)⟩
      · intro j oj t hj hoj hd hjb
        have hne : ob.dst ≠ some t := fun h => Region.flowPair_dst (hpair i hilt j hj) hobA hoj (Ne.symm hjb) h hd
        rw [put_get, if_neg hne, hF.slot j oj t hj hoj hd hjb, hlist j, if_neg hjb]
      · intro t hd
        rw [put_get, if_pos hd, hlist i, if_pos rfl, if_pos rfl, hF.slotb t hd, if_neg (by rw [getD_both hiu]; simp)]
      · intro t h
        rw [put_get, if_neg (h i ob hilt hobA), hF.other t h]
    · have hcl : w = W ∨ ∃ v, D v w := by
        cases h : listed.getD b false with
        | true => exact .inr ⟨vb, hF.wld.1 h⟩
        | false => exact .inl (hF.wld.2 h)
      have hpos := headsOf_get hbn hn' hilt hib
      have hol : l[i]? = some o := by rw [← hget]; exact ho
      rw [hol] at hpos
      have hsplit : headsOf l n b = (headsOf l n b).take (posOf b i) ++ o :: (headsOf l n b).drop (posOf b i + 1) := by
        have hlt := (List.getElem?_eq_some_iff.1 hpos).1
        have e := (List.getElem?_eq_some_iff.1 hpos).2
        rw [← e, ← List.drop_eq_getElem_cons hlt, List.take_append_drop]
      obtain ⟨_, _, _, htext⟩ := quiet_text _ _ (hq w hcl) hpw
      obtain ⟨ai, v, hy, t1, t2, t3⟩ := htext _ o _ hsplit
      have hal := seen_alike (ops := l.toArray) (o := o) (a := a) (a' := ai) (fun cs bb => hselect i o cs bb ho) fun t htl => by
        by_cases h : ∃ j o, j < n ∧ l.toArray[j]? = some o ∧ o.dst = some t
        · obtain ⟨j, oj, h1, h2, h3⟩ := h
          obtain ⟨k1, k2, k3⟩ := hseen t htl j oj h1 h2 h3
          by_cases hjb : j = b
          · -- nobody else looks at b's yield
            subst hjb
            have h4 := hblind i hilt
            simp only [Bool.or_eq_true, beq_iff_eq, hib, false_or] at h4
            exact absurd htl (Region.blindTo_spec h4 ho h2 h3)
          · rw [hF.slot j oj t h1 h2 h3 hjb, if_pos k3]
            refine (t1 t ⟨oj, ?_, h3⟩).symm
            have hjp := headsOf_get hbn hn' h1 hjb
            rw [← hget, h2] at hjp
            refine List.mem_of_getElem? (i := posOf b j) ?_
            rw [List.getElem?_take, if_pos (by unfold posOf; split <;> split <;> omega)]
            exact hjp
        · have h' : ∀ j o, j < n → l.toArray[j]? = some o → o.dst ≠ some t := fun j o h1 h2 h3 => h ⟨j, o, h1, h2, h3⟩
          rw [hF.other t h']
          refine (t2 t fun p hp => ?_).symm
          obtain ⟨q, hq'⟩ := List.mem_iff_getElem?.1 (List.mem_of_mem_take hp)
          obtain ⟨j, h1, h2, h3, _⟩ := headsOf_from hbn hn' hq'
          exact h' j p h1 (by rw [hget]; exact h3)
      have hy' := hy.of_same hal.1 hal.2
      have hqo := hy'.qOp (K := fun a' => a' = a.put o.dst v) ho rfl
      refine wpOp_of_qOp (C := fun w' => w' = w) rfl ?_ hqo
      rintro a' w' rfl rfl
      refine ih (U.erase i) _ _ _ vb hlen' hnd' hUm' ⟨hinv, by rw [put_size, hF.size], by rw [put_defers, hF.defers], ?_, ?_, ?_, ?_⟩
      · intro j oj t hj hoj hd hjb
        rw [put_get, hlist j]
        by_cases hji : j = i
        · subst hji
          rw [ho] at hoj; cases hoj
          rw [if_pos hd, if_pos rfl, if_pos rfl, hF.slot j o t hj ho hd hjb, if_neg (by rw [getD_both hiu]; simp), t3 t hd]
        · have hne : o.dst ≠ some t := fun h => Region.flowPair_dst (hpair i hilt j hj) ho hoj (Ne.symm hji) h hd
          rw [if_neg hne, if_neg hji, hF.slot j oj t hj hoj hd hjb]
      · intro t hd
        have hne : o.dst ≠ some t := fun h => Region.flowPair_dst (hpair i hilt b hbn) ho hobA hib h hd
        rw [put_get, if_neg hne, hF.slotb t hd, hlist b, if_neg (Ne.symm hib)]
      · intro t h
        rw [put_get, if_neg (h i o hilt ho), hF.other t h]
      · rw [hlist b, if_neg (Ne.symm hib)]
        exact hF.wld
theorem wp_region_callflow {id : Nat} (n b : Nat) (ob : Oper) (fn : FuncId) (D : Value → World → Prop) (hm : P.follows .mixedOrders = true) (hB : Region.flowB l.toArray n b = true) (hob : l[b]? = some ob)
    (hh : ∃ A, (∀ w, (w = { W with drawn := W.drawn + 1 } ∨ ∃ v, D v w) → wpQuiet P l.toArray (fun w' => w' = w) (fun a' => a' = A) (headsOf l n b) a0) ∧
      ∃ args, (execOp A.eval ob).run P { W with drawn := W.drawn + 1 } = .ok (.enter fn args) { W with drawn := W.drawn + 1 } ∧ (Calls P fn args { W with drawn := W.drawn + 1 } fun e w' => ∃ v, e = .returned v ∧ D v w') ∧
        ∀ v w, D v w → wpList P l.toArray Q (l.drop n) (A.put ob.dst v) w) :
    (Code.region id l.toArray true).wp P Q a0 W := by
  obtain ⟨A, hq, args, hb, hc, ht⟩ := hh
  refine wp_region_any hm ?_
  have hB' := hB
  simp only [Region.flowB, Bool.and_eq_true, decide_eq_true_eq] at hB'
  have hn := hB'.1.1.1.1.1.1.1.1.2
  have inv0 : HeadInv .any l.toArray n (Array.replicate l.toArray.size false) :=
    ⟨by simp, fun j oj _ hl => (by rw [getD_replicate_false] at hl; cases hl), fun t _ ht => getD_in (by simpa using ht) (getD_replicate_false _ _)⟩
  have h := callflow_run (W := { W with drawn := W.drawn + 1 }) (a0 := a0) (A := A) (D := D) (Q := Q) hB hob hq hb hc ht n (List.range n) (Array.replicate l.toArray.size false) a0 _ undef (by simp) List.nodup_range (fun i => by rw [List.mem_range]; exact ⟨fun h => ⟨h, getD_replicate_false _ _⟩, fun h => h.1⟩)
    ⟨inv0, rfl, rfl, fun j o t _ _ _ _ => by rw [getD_replicate_false]; rfl, fun t _ => by rw [getD_replicate_false]; rfl, fun _ _ => rfl, fun h => (by rw [getD_replicate_false] at h; cases h), fun _ => rfl⟩
  rwa [show n + (l.toArray.size - n) = l.toArray.size by omega] at h
structure Keep (W : World) (S : Nat → Nat → Prop) where
  w : World
  cells : ∀ b o, S b o → w.cell? ⟨b, o, none⟩ = W.cell? ⟨b, o, none⟩
structure Keep1 {W : World} {S : Nat → Nat → Prop} (X : Keep W S) where
  w : World
  h : w = X.w
instance {W : World} {S : Nat → Nat → Prop} (X : Keep W S) : Nonempty (Keep1 X) := ⟨⟨X.w, rfl⟩⟩
theorem Keep1.cell {W : World} {S : Nat → Nat → Prop} {X : Keep W S} (Y : Keep1 X) (b o : Nat) (h : S b o) : Y.w.cell? ⟨b, o, none⟩ = W.cell? ⟨b, o, none⟩ := by rw [Y.h]; exact X.cells b o h
attribute [go_sem] Keep1.cell
theorem keep1_class {W : World} {S : Nat → Nat → Prop} (X : Keep W S) : (fun w' => ∃ Y : Keep1 X, w' = Y.w) = (fun w' => w' = X.w) := funext fun w' => propext ⟨fun ⟨Y, h⟩ => h.trans Y.h, fun h => ⟨⟨X.w, rfl⟩, h⟩⟩
end
end Go
/- More, or less, through one arc: plainly. -/
namespace Go.Proofs.YtflchbejjofppaaGreatDoor
open Go Go.Proofs Go.RowKit
structure PushR (l l' : List Ac) (i : Nat) (high : Bool) : Prop where
  shape : shp l' = shp l
  fits : Fits l'
  bal : ∀ x, exc x l' = exc x l
  ext : ∀ n, Ends n l → Circ n l → ∀ l2, shp l2 = shp l → Circ n l2 → ∀ a a2, l'[i]? = some a → l2[i]? = some a2 → if high then a2.fl ≤ a.fl else a.fl ≤ a2.fl
theorem PushR.circ {l l' : List Ac} {i n : Nat} {high : Bool} (h : PushR l l' i high) (hc : Circ n l) : Circ n l' := ⟨h.fits, fun v hv => (h.bal v).trans (hc.bal v hv)⟩
theorem closed_congr {R : Nat → Bool} {i : Nat} {l l' : List Ac} (hl : l.length = l'.length) (h : ∀ j, j ≠ i → l'[j]? = l[j]?) (hC : Closed R i l) : Closed R i l' := fun j hj hne => by
  have h1 := h j (by omega)
  rw [List.getElem?_eq_getElem hj, List.getElem?_eq_getElem (by omega : j < l.length)] at h1
  rw [Option.some.inj h1]
  exact hC j (by omega) hne
theorem pushR_of {l l1 : List Ac} {i : Nat} {high : Bool} {m most : Int} {R : Nat → Bool} {a : Ac} (hi : l[i]? = some a) (hf : Fits l)
    (hfl : Flow l l1 (if high then a.to else a.fr) (if high then a.fr else a.to) i m) (hmost : most = if high then a.hi - a.fl else a.fl - a.lo) (h0 : 0 ≤ m) (h1 : m ≤ most)
    (hor : m = most ∨ (Closed R i l1 ∧ R (if high then a.to else a.fr) = true ∧ R (if high then a.fr else a.to) = false)) : PushR l (bump l1 (i, high) m) i high := by
  have hl1i : l1[i]? = some a := (hfl.wo i rfl).trans hi
  have hilt : i < l1.length := (List.getElem?_eq_some_iff.1 hl1i).1
  have hb : (bump l1 (i, high) m)[i]? = some { a with fl := if high then a.fl + m else a.fl - m } := by
    unfold bump; rw [List.getElem?_modify, hl1i]; simp
  have hsh : shp (bump l1 (i, high) m) = shp l := (shp_bump _ _ _).trans hfl.shape
  have hfit : Fits (bump l1 (i, high) m) := fits_bump (hfl.fits hf) h0 (by unfold roomOf; simp only [hl1i]; rw [← hmost]; exact h1)
  have hbal : ∀ x, exc x (bump l1 (i, high) m) = exc x l := fun x => by
    rw [exc_bump l1 (i, high) m x hilt, hfl.ex x]
    unfold headOf tailOf
    simp only [hl1i]
    cases high <;> simp <;> omega
  refine ⟨hsh, hfit, hbal, fun n hE hc l2 hs2 hc2 b b2 hbi hb2 => ?_⟩
  rw [hb] at hbi
  obtain rfl := Option.some.inj hbi
  have hi2 := (List.getElem?_eq_some_iff.1 hb2).1
  have hib := (List.getElem?_eq_some_iff.1 hb).1
  have e2 : l2[i] = b2 := (List.getElem?_eq_some_iff.1 hb2).2
  have e1 := (List.getElem?_eq_some_iff.1 hb).2
  have hsh2 : shp (bump l1 (i, high) m) = shp l2 := hsh.trans hs2.symm
  have hbare := bare_eq (shp_get hsh2 i hib hi2)
  rw [e1, e2] at hbare
  obtain ⟨g1, g2, g3, g4⟩ := hbare
  dsimp only at g1 g2 g3 g4
  have hfit2 := hc2.fits b2 (by rw [← e2]; exact List.getElem_mem hi2)
  have hcb : Circ n (bump l1 (i, high) m) := ⟨hfit, fun v hv => (hbal v).trans (hc.bal v hv)⟩
  have hEb := shp_ends hsh.symm hE
  rcases hor with rfl | ⟨hC, hu, ht⟩
  · subst hmost
    cases high
    · simp only [Bool.false_eq_true, if_false] at *
      omega
    · simp only [if_true] at *
      omega
  · have hC2 : Closed R i (bump l1 (i, high) m) := closed_congr (bump_length _ _ _).symm (fun j hj => bump_get_other _ _ _ hj) hC
    cases high
    · simp only [Bool.false_eq_true, if_false] at *
      have := least_of_closed hsh2 hEb hcb hc2 hib hi2 hC2 (by rw [e1]; exact ht) (by rw [e1]; exact hu)
      rw [e1, e2] at this
      exact this
    · simp only [if_true] at *
      have := most_of_closed hsh2 hEb hcb hc2 hib hi2 hC2 (by rw [e1]; exact hu) (by rw [e1]; exact ht)
      rw [e1, e2] at this
      exact this
theorem NetR.setFlow {w : World} {B nb : Nat} {v : Value} {l : List Ac} {tk pl : Nat} {rc : List Bool} (h : NetR w B nb v l tk pl rc) (s : St) (m : Int) (hs : s.1 < l.length) {g : Nat} (hv : v.ownBlock = some g) (x : Int) (hx : x = if s.2 then l[s.1].fl + m else l[s.1].fl - m) :
    NetR (w.setCell ⟨g, s.1 * 5 + 4, none⟩ (.int .i64 x)) B nb v (bump l s m) tk pl rc := by
  have hne : g ≠ nb := fun e => h.ne (by rw [hv, e])
  obtain ⟨g', cap, e, hb1, hb2⟩ := h.own.form (by omega)
  have eg : g' = g := by rw [e] at hv; simpa [Value.ownBlock] using hv
  subst eg
  have hown := h.own
  rw [e] at hown
  have hset := hown.set Ac.encW_len s.1 hs 4 (by omega) (.int .i64 x) { l[s.1] with fl := if s.2 then l[s.1].fl + m else l[s.1].fl - m } (by rw [hx]; rfl)
  rw [← bump_set l s m hs, ← e] at hset
  exact ⟨h.box.other _ (by dsimp only; omega), hset, h.ne, h.n36⟩
def PushPost (w : World) (B nb : Nat) (v : Value) (l : List Ac) (tk pl i : Nat) (high : Bool) (e : Ending) (w' : World) : Prop :=
  ∃ l' rc', e = .returned (.tuple #[]) ∧ NetR w' B nb v l' tk pl rc' ∧ Kept (Mine nb v) w w' ∧ PushR l l' i high
end Go.Proofs.YtflchbejjofppaaGreatDoor
/- Walks: push. -/
namespace Go.Proofs.YtflchbejjofppaaGreatDoor
open Go Go.Proofs Go.RowKit
set_option maxRecDepth 100000 in
set_option maxHeartbeats 1000000 in
theorem push80 (B nb : Nat) (v : Value) (l : List Ac) (tk pl : Nat) (rc : List Bool) (i : Nat) (high : Bool) (w : World) (hnet : NetR w B nb v l tk pl rc) (hl : l.length ≤ 1000) (hs : SmallS l 1000000000000) (hf : Fits l) (hE : Ends 36 l)
    (hi : i < l.length) (hne : l[i].fr ≠ l[i].to) :
    Calls Tryz.prog 47 #[.pointer (some ⟨nb, 0, none⟩), .int .i64 i, .bool high] w (PushPost w B nb v l tk pl i high) := by
  obtain ⟨g, cap, rfl, hg, hgs⟩ := hnet.own.form (by omega)
  have c0 := hnet.toA.c0
  have n0 := hnet.box.lt
  obtain ⟨e0, e1, e2, e3, e4⟩ := (hnet.own.at Ac.encW_len i hi).c5
  have hsm := hs l[i] (List.getElem_mem hi)
  have hfi := hf l[i] (List.getElem_mem hi)
  have hEi := hE l[i] (List.getElem_mem hi)
  have HI := Lib.hid (List.getElem?_eq_getElem hi)
  generalize hA : l[i] = a at *
  have HA := Lib.hid hA
  clear hA
  obtain ⟨fr, to, lo, hi', fl⟩ := a
  dsimp only at *
  have HL := Lib.hid hl
  have HNET := Lib.hid hnet
  have HS := Lib.hid hs
  have HF := Lib.hid hf
  have HE := Lib.hid hE
  clear hnet hs hf hE hl
  have HK := Lib.hid (show ∀ (m2 : Int) (u t : Nat) (Z : Int → List Bool → List Ac → Prop) (W' : World), (W' = { w with drawn := w.drawn + 1 } ∨ ∃ x m l1 rc1, x = Value.int .i64 m ∧ NetR W' B nb (.slice (some ⟨g, 0, none⟩) l.length cap) l1 tk pl rc1 ∧ Kept (Mine nb (.slice (some ⟨g, 0, none⟩) l.length cap)) w W' ∧ Flow l l1 u t i m ∧ 0 ≤ m ∧ m ≤ m2 ∧ Z m rc1 l1) → ∃ X : Keep w (fun b o => b = g ∧ i * 5 ≤ o ∧ o < i * 5 + 5), X.w = W' from by
    rintro m2 u t Z W' (rfl | ⟨x, m, l1, rc1, _, hn, _, hfl, _⟩)
    · exact ⟨⟨{ w with drawn := w.drawn + 1 }, fun _ _ _ => rfl⟩, rfl⟩
    · refine ⟨⟨W', ?_⟩, rfl⟩
      rintro b o ⟨rfl, h1, h2⟩
      have hx : l1[i]? = l[i]? := hfl.wo i rfl
      have hi1 : i < l1.length := by rw [shp_length hfl.shape]; exact hi
      rw [List.getElem?_eq_getElem hi1, List.getElem?_eq_getElem hi] at hx
      have hno := hn.own
      rw [← shp_length hfl.shape] at hno
      obtain ⟨d0, d1, d2, d3, d4⟩ := (hno.at Ac.encW_len i hi1).c5
      rw [Option.some.inj hx, HA.out] at d0 d1 d2 d3 d4
      obtain ⟨j, rfl⟩ : ∃ j, o = i * 5 + j := ⟨o - i * 5, by omega⟩
      have hj : j < 5 := by omega
      match j, hj with
      | 0, _ => exact d0.trans e0.symm
      | 1, _ => exact d1.trans e1.symm
      | 2, _ => exact d2.trans e2.symm
      | 3, _ => exact d3.trans e3.symm
      | 4, _ => exact d4.trans e4.symm)
  have HFN := Lib.hid (show ∀ (high : Bool) (m : Int) (l1 : List Ac) (rc1 : List Bool) (w2 : World), NetR w2 B nb (.slice (some ⟨g, 0, none⟩) l.length cap) l1 tk pl rc1 → Kept (Mine nb (.slice (some ⟨g, 0, none⟩) l.length cap)) w w2 → Flow l l1 (if high then to else fr) (if high then fr else to) i m → 0 ≤ m →
      m ≤ (if high then hi' - fl else fl - lo) → (m = (if high then hi' - fl else fl - lo) ∨ (Closed (fun x => rc1.getD x false) i l1 ∧ rc1.getD (if high then to else fr) false = true ∧ rc1.getD (if high then fr else to) false = false)) →
      PushPost w B nb (.slice (some ⟨g, 0, none⟩) l.length cap) l tk pl i high (.returned (.tuple #[])) (w2.setCell ⟨g, i * 5 + 4, none⟩ (.int .i64 (if high then fl + m else fl - m))) from by
    intro high m l1 rc1 w2 hn hk hfl h0 h1 hor
    have hi1 : i < l1.length := by rw [shp_length hfl.shape]; exact hi
    have hx : l1[i]? = l[i]? := hfl.wo i rfl
    rw [List.getElem?_eq_getElem hi1, List.getElem?_eq_getElem hi] at hx
    refine ⟨_, rc1, rfl, hn.setFlow (i, high) m hi1 rfl _ (by dsimp only; rw [Option.some.inj hx, HA.out]), hk.set _ (.inl (.inr rfl)), pushR_of (a := ⟨fr, to, lo, hi', fl⟩) ((List.getElem?_eq_getElem hi).trans (by rw [HA.out])) HF.out hfl rfl h0 h1 hor⟩)
  have HGN := Lib.hid (show ∀ (w2 : World) (l1 : List Ac) (rc1 : List Bool) (u t : Nat) (m : Int), NetR w2 B nb (.slice (some ⟨g, 0, none⟩) l.length cap) l1 tk pl rc1 → Flow l l1 u t i m → w2.cell? ⟨g, i * 5 + 4, none⟩ = some (.int .i64 fl) ∧ w2.frozen? ⟨g, i * 5 + 4, none⟩ = false from by
    intro w2 l1 rc1 u t m hn hfl
    have hx : l1[i]? = l[i]? := hfl.wo i rfl
    have hi1 : i < l1.length := by rw [shp_length hfl.shape]; exact hi
    rw [List.getElem?_eq_getElem hi1, List.getElem?_eq_getElem hi] at hx
    have hno := hn.own
    rw [← shp_length hfl.shape] at hno
    obtain ⟨d0, d1, d2, d3, d4⟩ := (hno.at Ac.encW_len i hi1).c5
    rw [Option.some.inj hx, HA.out] at d4
    exact ⟨d4, hno.frozen _⟩)
  go_enter Tryz.func47, Tryz.ntmps47
  cases high
  · go_wp2_with fail
    refine wp_region_callflow 25 24 _ 60 (fun u w' => ∃ m l1 rc1, u = .int .i64 m ∧ NetR w' B nb (.slice (some ⟨g, 0, none⟩) l.length cap) l1 tk pl rc1 ∧ Kept (Mine nb (.slice (some ⟨g, 0, none⟩) l.length cap)) w w' ∧ Flow l l1 fr to i m ∧ 0 ≤ m ∧ m ≤ fl - lo ∧
      (m = fl - lo ∨ (Closed (fun x => rc1.getD x false) i l1 ∧ rc1.getD fr false = true ∧ rc1.getD to false = false))) (by kernel_rfl) (by kernel_rfl) rfl ?_
    apply Exists.intro
    refine ⟨fun W' hW' => ?_, ?_⟩
    · obtain ⟨X, hX⟩ := HK.out (fl - lo) fr to (fun m rc1 l1 => m = fl - lo ∨ (Closed (fun x => rc1.getD x false) i l1 ∧ rc1.getD fr false = true ∧ rc1.getD to false = false)) W' hW'
      subst hX
      rw [← keep1_class X]
      simp only [headsOf, List.take_succ_cons, List.drop_succ_cons, List.take_zero, List.drop_zero, Nat.reduceSub, List.cons_append, List.nil_append]
      repeat go_big_quiet_step (fail)
      exact wpQuiet_nil rfl
    apply Exists.intro
    refine ⟨?_, ?_, ?_⟩
    · go_simp
      first | rfl | (go_ints; rfl)
    · refine (flood90 B nb (.slice (some ⟨g, 0, none⟩) l.length cap) l tk pl rc fr to (fl - lo) i { w with drawn := w.drawn + 1 } (HNET.out.later ⟨rfl, rfl, rfl, Nat.le_refl _, fun _ _ => rfl⟩) HL.out HS.out HF.out HE.out hEi.1 hEi.2 hne (by omega) (by omega)).mono ?_
      rintro e w2 ⟨m, l1, rc1, rfl, hn, hk, hfl, h0, h1, hor⟩
      exact ⟨_, rfl, m, l1, rc1, rfl, hn, (Kept.trans (Kept.drew (Kept.refl _ _)) hk), hfl, h0, h1, hor⟩
    · rintro u w2 ⟨m, l1, rc1, rfl, hn, hk, hfl, h0, h1, hor⟩
      have HFIN := HFN.out false m l1 rc1 w2 hn hk hfl h0 h1 hor
      obtain ⟨d4, z4⟩ := HGN.out w2 l1 rc1 _ _ m hn hfl
      have HFX := Lib.hid HFIN
      clear HFIN
      clear hn hk hfl hor
      simp only [Act.put, List.setIfInBounds_toArray, List.set_cons_succ, List.set_cons_zero, List.drop_succ_cons, List.drop_zero]
      go_wp2_with fail
      exact bodyPost_end (results_none rfl _ _ _) rfl HFX.out
  · go_wp2_with fail
    refine wp_region_callflow 25 24 _ 60 (fun u w' => ∃ m l1 rc1, u = .int .i64 m ∧ NetR w' B nb (.slice (some ⟨g, 0, none⟩) l.length cap) l1 tk pl rc1 ∧ Kept (Mine nb (.slice (some ⟨g, 0, none⟩) l.length cap)) w w' ∧ Flow l l1 to fr i m ∧ 0 ≤ m ∧ m ≤ hi' - fl ∧
      (m = hi' - fl ∨ (Closed (fun x => rc1.getD x false) i l1 ∧ rc1.getD to false = true ∧ rc1.getD fr false = false))) (by kernel_rfl) (by kernel_rfl) rfl ?_
    apply Exists.intro
    refine ⟨fun W' hW' => ?_, ?_⟩
    · obtain ⟨X, hX⟩ := HK.out (hi' - fl) to fr (fun m rc1 l1 => m = hi' - fl ∨ (Closed (fun x => rc1.getD x false) i l1 ∧ rc1.getD to false = true ∧ rc1.getD fr false = false)) W' hW'
      subst hX
      rw [← keep1_class X]
      simp only [headsOf, List.take_succ_cons, List.drop_succ_cons, List.take_zero, List.drop_zero, Nat.reduceSub, List.cons_append, List.nil_append]
      repeat go_big_quiet_step (fail)
      exact wpQuiet_nil rfl
    apply Exists.intro
    refine ⟨?_, ?_, ?_⟩
    · go_simp
      first | rfl | (go_ints; rfl)
    · refine (flood90 B nb (.slice (some ⟨g, 0, none⟩) l.length cap) l tk pl rc to fr (hi' - fl) i { w with drawn := w.drawn + 1 } (HNET.out.later ⟨rfl, rfl, rfl, Nat.le_refl _, fun _ _ => rfl⟩) HL.out HS.out HF.out HE.out hEi.2 hEi.1 (Ne.symm hne) (by omega) (by omega)).mono ?_
      rintro e w2 ⟨m, l1, rc1, rfl, hn, hk, hfl, h0, h1, hor⟩
      exact ⟨_, rfl, m, l1, rc1, rfl, hn, (Kept.trans (Kept.drew (Kept.refl _ _)) hk), hfl, h0, h1, hor⟩
    · rintro u w2 ⟨m, l1, rc1, rfl, hn, hk, hfl, h0, h1, hor⟩
      have HFIN := HFN.out true m l1 rc1 w2 hn hk hfl h0 h1 hor
      obtain ⟨d4, z4⟩ := HGN.out w2 l1 rc1 _ _ m hn hfl
      have HFX := Lib.hid HFIN
      clear HFIN
      clear hn hk hfl hor
      simp only [Act.put, List.setIfInBounds_toArray, List.set_cons_succ, List.set_cons_zero, List.drop_succ_cons, List.drop_zero]
      go_wp2_with fail
      exact bodyPost_end (results_none rfl _ _ _) rfl HFX.out
end Go.Proofs.YtflchbejjofppaaGreatDoor
/- Walks: extent. -/
namespace Go.Proofs.YtflchbejjofppaaGreatDoor
open Go Go.Proofs Go.RowKit
def Extent (n : Nat) (l : List Ac) (i : Nat) (lo hi : Int) : Prop :=
  (∃ l2 a, shp l2 = shp l ∧ Circ n l2 ∧ l2[i]? = some a ∧ a.fl = lo) ∧ (∃ l2 a, shp l2 = shp l ∧ Circ n l2 ∧ l2[i]? = some a ∧ a.fl = hi) ∧
    ∀ l2 a, shp l2 = shp l → Circ n l2 → l2[i]? = some a → lo ≤ a.fl ∧ a.fl ≤ hi
theorem extent_of {l l1 l2 : List Ac} {i n : Nat} {a1 a2 : Ac} (h1 : PushR l l1 i false) (h2 : PushR l1 l2 i true) (hE : Ends n l) (hc : Circ n l) (e1 : l1[i]? = some a1) (e2 : l2[i]? = some a2) : Extent n l i a1.fl a2.fl := by
  have hc1 := h1.circ hc
  refine ⟨⟨l1, a1, h1.shape, hc1, e1, rfl⟩, ⟨l2, a2, h2.shape.trans h1.shape, h2.circ hc1, e2, rfl⟩, fun l3 a3 hs3 hc3 e3 => ?_⟩
  have k1 := h1.ext n hE hc l3 hs3 hc3 a1 a3 e1 e3
  have k2 := h2.ext n (shp_ends h1.shape.symm hE) hc1 l3 (hs3.trans h1.shape.symm) hc3 a2 a3 e2 e3
  simp only [Bool.false_eq_true, if_false, if_true] at k1 k2
  exact ⟨k1, k2⟩
theorem NetR.other {w : World} {B nb : Nat} {v : Value} {l : List Ac} {tk pl : Nat} {rc : List Bool} (h : NetR w B nb v l tk pl rc) {p : Addr} (u : Value) (h1 : p.block ≠ nb) (h2 : v.ownBlock ≠ some p.block) : NetR (w.setCell p u) B nb v l tk pl rc :=
  ⟨h.box.other _ h1, h.own.other _ h2, h.ne, h.n36⟩
def ExtPost (w : World) (B nb : Nat) (v : Value) (l : List Ac) (tk pl i : Nat) (e : Ending) (w' : World) : Prop :=
  ∃ l' rc' lo hi, e = .returned (.agg #[.int .i64 lo, .int .i64 hi]) ∧ NetR w' B nb v l' tk pl rc' ∧ Kept (Mine nb v) w w' ∧ shp l' = shp l ∧ Fits l' ∧ ∀ n, Ends n l → Circ n l → Circ n l' ∧ Extent n l i lo hi
theorem Box.keeps {S : Nat → Prop} {w w' : World} {k : Nat} {e : TypeId} {vs : List Value} (h : Box w k e vs) (hk : Kept S w w') (hn : ¬ S k) : Box w' k e vs := (hk.block k h.lt hn).trans h
set_option maxRecDepth 100000 in
set_option maxHeartbeats 1000000 in
theorem extent79 (B nb : Nat) (v : Value) (l : List Ac) (tk pl : Nat) (rc : List Bool) (i : Nat) (w : World) (hnet : NetR w B nb v l tk pl rc) (hl : l.length ≤ 1000) (hs : SmallS l 1000000000000) (hf : Fits l) (hE : Ends 36 l)
    (hi : i < l.length) (hne : l[i].fr ≠ l[i].to) :
    Calls Tryz.prog 32 #[.pointer (some ⟨nb, 0, none⟩), .int .i64 i] w (ExtPost w B nb v l tk pl i) := by
  obtain ⟨g, cap, rfl, hg, hgs⟩ := hnet.own.form (by omega)
  have n0 := hnet.box.lt
  have HNET := Lib.hid hnet
  have HL := Lib.hid hl
  have HS := Lib.hid hs
  have HF := Lib.hid hf
  have HE := Lib.hid hE
  have HNE := Lib.hid hne
  clear hnet hs hf hE hne
  have HAT := Lib.hid (show ∀ (w2 : World) (l1 : List Ac) (rc1 : List Bool), NetR w2 B nb (.slice (some ⟨g, 0, none⟩) l.length cap) l1 tk pl rc1 → shp l1 = shp l → ∃ a, l1[i]? = some a ∧ w2.cell? ⟨nb, 0, none⟩ = some (.slice (some ⟨g, 0, none⟩) l.length cap) ∧ w2.cell? ⟨g, i * 5 + 4, none⟩ = some (.int .i64 a.fl) from by
    intro w2 l1 rc1 hn hsh
    have hi1 : i < l1.length := by rw [shp_length hsh]; exact hi
    have hno := hn.own
    rw [← shp_length hsh] at hno
    obtain ⟨d0, d1, d2, d3, d4⟩ := (hno.at Ac.encW_len i hi1).c5
    exact ⟨_, List.getElem?_eq_getElem hi1, hn.toA.c0, d4⟩)
  have HP := Lib.hid (show ∀ (high : Bool) (w2 : World) (l1 : List Ac) (rc1 : List Bool), NetR w2 B nb (.slice (some ⟨g, 0, none⟩) l.length cap) l1 tk pl rc1 → shp l1 = shp l → Fits l1 →
      Calls Tryz.prog 47 #[.pointer (some ⟨nb, 0, none⟩), .int .i64 i, .bool high] w2 (PushPost w2 B nb (.slice (some ⟨g, 0, none⟩) l.length cap) l1 tk pl i high) from by
    intro high w2 l1 rc1 hn hsh hf1
    have hi1 : i < l1.length := by rw [shp_length hsh]; exact hi
    have hb := bare_eq (shp_get hsh i hi1 hi)
    exact push80 B nb _ l1 tk pl rc1 i high w2 hn (by rw [shp_length hsh]; exact HL.out) (HS.out.shp hsh) hf1 (shp_ends hsh.symm HE.out) hi1 (by rw [hb.1, hb.2.1]; exact HNE.out))
  go_enter Tryz.func32, Tryz.ntmps32
  go_wp2_with fail
  refine (HP.out false _ l rc (HNET.out.alloc _) rfl HF.out).mono ?_
  rintro e w1 ⟨l1, rc1, rfl, hn1, hk1, hp1⟩
  have hx1 := (Box.new w #[.int .i64 0, .int .i64 0] 34).keeps hk1 (by
    rintro (h | h)
    · omega
    · have h2 : g = w.heap.size := Option.some.inj h
      omega)
  have hkk1 := (Kept.refl (Mine nb (.slice (some ⟨g, 0, none⟩) l.length cap)) w).alloc (.cells #[.int .i64 0, .int .i64 0] 34) |>.trans hk1
  obtain ⟨a1, ea1, c0, d4⟩ := HAT.out w1 l1 rc1 hn1 hp1.shape
  have HP1 := Lib.hid hp1
  have HN1 := Lib.hid hn1
  have HK1 := Lib.hid hkk1
  have HEA1 := Lib.hid ea1
  clear hn1 hk1 hp1 hkk1 ea1
  go_wp2_with fail
  refine (HP.out true _ l1 rc1 HN1.out HP1.out.shape HP1.out.fits).mono ?_
  rintro e w2 ⟨l2, rc2, rfl, hn2, hk2, hp2⟩
  have hx2 := hx1.keeps hk2 (by
    rintro (h | h)
    · omega
    · have h2 : g = w.heap.size := Option.some.inj h
      omega)
  clear c0 d4
  obtain ⟨a2, ea2, c0, d4⟩ := HAT.out w2 l2 rc2 hn2 (hp2.shape.trans HP1.out.shape)
  have x0 := hx2.cell 0
  have x1 := hx2.cell 1
  have y0 := hx2.frozen 0
  have y1 := hx2.frozen 1
  have HN2 := Lib.hid hn2
  have HP2 := Lib.hid hp2
  have HK2 := Lib.hid (HK1.out.trans hk2)
  have HEA2 := Lib.hid ea2
  clear hn2 hp2 hk2 ea2
  simp only [List.getElem?_cons_zero, List.getElem?_cons_succ] at x0 x1
  go_wp2_with fail
  have hx3 := (hx2.set 0 (.int .i64 a1.fl)).set 1 (.int .i64 a2.fl)
  have hn3 := (HN2.out.other (p := ⟨w.heap.size, 0, none⟩) (.int .i64 a1.fl) (by dsimp only; omega) (by intro h; have h2 : g = w.heap.size := Option.some.inj h; omega)).other (p := ⟨w.heap.size, 1, none⟩) (.int .i64 a2.fl) (by dsimp only; omega) (by intro h; have h2 : g = w.heap.size := Option.some.inj h; omega)
  have hk3 := (HK2.out.set (p := ⟨w.heap.size, 0, none⟩) (.int .i64 a1.fl) (.inr (Nat.le_refl _))).set (p := ⟨w.heap.size, 1, none⟩) (.int .i64 a2.fl) (.inr (Nat.le_refl _))
  clear x0 x1
  have x0 := hx3.cell 0
  have x1 := hx3.cell 1
  simp only [List.set_cons_zero, List.set_cons_succ, List.getElem?_cons_zero, List.getElem?_cons_succ] at x0 x1
  generalize (w2.setCell ⟨w.heap.size, 0, none⟩ (.int .i64 a1.fl)).setCell ⟨w.heap.size, 1, none⟩ (.int .i64 a2.fl) = w3 at *
  refine bodyPost_ret (v := .agg #[.int .i64 a1.fl, .int .i64 a2.fl]) (by simp [results, Tryz.results32, go_sem, *]) rfl ?_
  exact ⟨l2, rc2, a1.fl, a2.fl, rfl, hn3, hk3, HP2.out.shape.trans HP1.out.shape, HP2.out.fits, fun n hE2 hc => ⟨HP2.out.circ (HP1.out.circ hc), extent_of HP1.out HP2.out hE2 hc HEA1.out HEA2.out⟩⟩
end Go.Proofs.YtflchbejjofppaaGreatDoor
/- Walks: weigh.IsConsistent and settled. -/
namespace Go.Proofs.YtflchbejjofppaaGreatDoor
open Go Go.Proofs Go.RowKit
def Con (b : Bk) : Prop := ∃ l, shp l = shp (arcsOf b) ∧ Circ (b.st.length + 1) l
theorem settle_con {w w' : World} {b : Bk} {e : Ending} (hok : OkBk b) (h : SettlePost w b e w') :
    ∃ ok nb v l rc, e = .returned (.tuple #[.pointer (some ⟨nb, 0, none⟩), .bool ok]) ∧ NetR w' w.heap.size nb v l b.ts.length b.st.length rc ∧ Below w.heap.size w w' ∧ w.heap.size ≤ nb ∧ shp l = shp (arcsOf b) ∧ Fits l ∧
      (ok = true ↔ Con b) ∧ (ok = true → Circ (b.st.length + 1) l) ∧ (ok = false → 0 < cutv (fun x => rc.getD x false) (arcsOf b)) := by
  obtain ⟨ok, nb, v, l, rc, h1, h2, h3, h4, h5, h6, h7, h8⟩ := h
  refine ⟨ok, nb, v, l, rc, h1, h2, h3, h4, h5, h6, ⟨fun h => ⟨l, h5, h7 h⟩, fun ⟨l2, hs2, hc2⟩ => ?_⟩, h7, h8⟩
  cases ok with
  | true => rfl
  | false => exact absurd hc2 (no_circ hs2 (arcs_ends hok) (h8 rfl))
def SettledPost (w : World) (b : Bk) (e : Ending) (w' : World) : Prop :=
  Below w.heap.size w w' ∧ ((ckBook b ≠ 0 ∧ e = .returned (.tuple #[.pointer none, .int .i64 (ckBook b)])) ∨ (ckBook b = 0 ∧ ¬ Con b ∧ e = .returned (.tuple #[.pointer none, .int .i64 15])) ∨
    (ckBook b = 0 ∧ Con b ∧ ∃ nb v l rc, e = .returned (.tuple #[.pointer (some ⟨nb, 0, none⟩), .int .i64 0]) ∧ NetR w' w.heap.size nb v l b.ts.length b.st.length rc ∧ w.heap.size ≤ nb ∧ shp l = shp (arcsOf b) ∧ Circ (b.st.length + 1) l))
theorem Own.lower {α : Type} {f : α → List Value} {sz : Nat} {e : TypeId} {w : World} {base base' : Nat} {v : Value} {l : List α} (h : Own f sz e w base v l) (hB : base' ≤ base) : Own f sz e w base' v l := by
  obtain ⟨h1, h2⟩ := h
  refine ⟨h1, ?_⟩
  rcases h2 with h2 | ⟨g, cap, cur, h2, h3, h4⟩
  · exact .inl h2
  · exact .inr ⟨g, cap, cur, h2, Nat.le_trans hB h3, h4⟩
theorem NetR.lower {w : World} {B B' nb : Nat} {v : Value} {l : List Ac} {tk pl : Nat} {rc : List Bool} (h : NetR w B nb v l tk pl rc) (hB : B' ≤ B) : NetR w B' nb v l tk pl rc :=
  ⟨h.box, h.own.lower hB, h.ne, h.n36⟩
set_option maxRecDepth 100000 in
set_option maxHeartbeats 1000000 in
theorem settled78 (w : World) (v1 v2 : Value) (b : Bk) (hv : BkR w w.heap.size v1 v2 b) : Calls Tryz.prog 31 #[.agg #[v1, v2]] w (SettledPost w b) := by
  have HC := Lib.hid (fun (w1 : World) (hb : Below w.heap.size w w1) => ckBook25 v1 v2 b w1 (hv.later hb))
  have HS := Lib.hid (fun (w1 : World) (hb : Below w.heap.size w w1) (hok : OkBk b) => settle72 w1 v1 v2 b hok (hv.later hb))
  obtain ⟨⟨a1, n1, hv1, hl1, hA1⟩, ⟨a2, n2, hv2, hl2, hA2⟩, hids⟩ := hv
  subst hv1 hv2
  clear hA1 hA2 hids
  go_enter Tryz.func31, Tryz.ntmps31
  go_wp2_with fail
  refine (HC.out _ ((Below.refl _ _).alloc (Nat.le_refl _) _)).mono ?_
  rintro e w1 ⟨rfl, hb1⟩
  have hx1 := (Box.new w #[.slice a1 b.st.length n1, .slice a2 b.ts.length n2] 25).later hb1
  have hbb := ((Below.refl w.heap.size w).alloc (Nat.le_refl _) (.cells #[.slice a1 b.st.length n1, .slice a2 b.ts.length n2] 25)).trans (hb1.mono (by simp))
  have HB := Lib.hid hbb
  have x0 := hx1.cell 0
  have x1 := hx1.cell 1
  simp only [List.getElem?_cons_zero, List.getElem?_cons_succ] at x0 x1
  clear hb1 hbb
  by_cases hck : ckBook b = 0
  · have hne : (ckBook b == 0) = true := by simp [hck]
    have HCK := Lib.hid hck
    go_wp2_with fail
    refine (HS.out w1 HB.out (okBk_of HCK.out)).mono ?_
    intro e w2 hp
    obtain ⟨ok, nb, v, l, rc, rfl, hn, hb2, hnb, hsh, _, hiff, hci, _⟩ := settle_con (okBk_of HCK.out) hp
    have HB2 := Lib.hid (HB.out.trans (hb2.mono HB.out.size))
    have HIF := Lib.hid hiff
    have HN := Lib.hid (hn.lower HB.out.size)
    have HNB := Lib.hid (Nat.le_trans HB.out.size hnb)
    have HCI := Lib.hid hci
    have HSH := Lib.hid hsh
    clear hp hb2 hiff hn hnb hci hsh
    cases ok
    · go_wp2_with fail
      refine bodyPost_ret (results_tmp2 rfl _ _ _) rfl ?_
      exact ⟨HB2.out, .inr (.inl ⟨HCK.out, fun h => (by have := HIF.out.2 h; cases this), rfl⟩)⟩
    · go_wp2_with fail
      refine bodyPost_ret (results_tmp2 rfl _ _ _) rfl ?_
      exact ⟨HB2.out, .inr (.inr ⟨HCK.out, HIF.out.1 (by trivial), nb, v, l, rc, rfl, HN.out, HNB.out, HSH.out, HCI.out (by trivial)⟩)⟩
  · have hne : (ckBook b == 0) = false := by simp [hck]
    have HCK := Lib.hid hck
    clear hck
    go_wp2_with fail
    refine bodyPost_ret (results_tmp2 rfl _ _ _) rfl ?_
    exact ⟨HB.out, .inl ⟨HCK.out, rfl⟩⟩
end Go.Proofs.YtflchbejjofppaaGreatDoor
