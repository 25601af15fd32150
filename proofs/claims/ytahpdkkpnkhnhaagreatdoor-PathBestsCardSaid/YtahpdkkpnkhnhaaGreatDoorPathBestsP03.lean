/- Lemmas on the way to the law PathBests (part 3): Rg Sg -/
import Derived.Test.YtahpdkkpnkhnhaaGreatDoorPathBestsP02
set_option linter.unusedVariables false
set_option linter.unusedSimpArgs false

/- A region that draws its order, in which one operation calls a function that makes memory of its own: the operations that do not look at its answer come before it or behind it, those that do behind it; all but the call are quiet. -/
namespace Go
open Go.RowKit
section
def selF (f : Nat → Bool) : Nat → List Oper → List Oper
  | _, [] => []
  | k, o :: r => if f k then o :: selF f (k + 1) r else selF f (k + 1) r
theorem selF_mem (f : Nat → Bool) : ∀ (l : List Oper) (k : Nat) (o : Oper), o ∈ selF f k l → ∃ j, l[j]? = some o ∧ f (k + j) = true
  | [], _, _, h => by simp [selF] at h
  | x :: r, k, o, h => by
    unfold selF at h
    have hr : ∀ (h : o ∈ selF f (k + 1) r), ∃ j, (x :: r)[j]? = some o ∧ f (k + j) = true := fun h => by
      obtain ⟨j, h1, h2⟩ := selF_mem f r (k + 1) o h
      exact ⟨j + 1, by simpa using h1, by rw [show k + (j + 1) = k + 1 + j by omega]; exact h2⟩
    split at h
    · rename_i hf
      rcases List.mem_cons.1 h with rfl | h
      · exact ⟨0, rfl, by simpa using hf⟩
      · exact hr h
    · exact hr h
theorem selF_split (f : Nat → Bool) : ∀ (l : List Oper) (k i : Nat) (o : Oper), l[i]? = some o → f (k + i) = true →
    ∃ pre post, selF f k l = pre ++ o :: post ∧ (∀ p ∈ pre, ∃ j, j < i ∧ l[j]? = some p ∧ f (k + j) = true) ∧ (∀ j p, j < i → l[j]? = some p → f (k + j) = true → p ∈ pre)
  | [], _, i, o, h, _ => by simp at h
  | x :: r, k, 0, o, h, hf => by
    obtain rfl : x = o := by simpa using h
    unfold selF
    rw [if_pos (by simpa using hf)]
    exact ⟨[], _, rfl, by simp, fun j p hj => by omega⟩
  | x :: r, k, i + 1, o, h, hf => by
    obtain ⟨pre, post, h1, h2, h3⟩ := selF_split f r (k + 1) i o (by simpa using h) (by rw [show k + 1 + i = k + (i + 1) by omega]; exact hf)
    have h2' : ∀ p ∈ pre, ∃ j, j < i + 1 ∧ (x :: r)[j]? = some p ∧ f (k + j) = true := fun p hp => by
      obtain ⟨j, a1, a2, a3⟩ := h2 p hp
      exact ⟨j + 1, by omega, by simpa using a2, by rw [show k + (j + 1) = k + 1 + j by omega]; exact a3⟩
    unfold selF
    by_cases hx : f k = true
    · rw [if_pos hx, h1]
      refine ⟨x :: pre, post, rfl, fun p hp => ?_, fun j p hj hp hfj => ?_⟩
      · rcases List.mem_cons.1 hp with rfl | hp
        · exact ⟨0, by omega, rfl, by simpa using hx⟩
        · exact h2' p hp
      · cases j with
        | zero => obtain rfl : x = p := by simpa using hp
                  simp
        | succ j => exact List.mem_cons_of_mem _ (h3 j p (by omega) (by simpa using hp) (by rw [show k + 1 + j = k + (j + 1) by omega]; exact hfj))
    · rw [if_neg hx, h1]
      refine ⟨pre, post, rfl, h2', fun j p hj hp hfj => ?_⟩
      cases j with
      | zero => exact absurd (by simpa using hfj) hx
      | succ j => exact h3 j p (by omega) (by simpa using hp) (by rw [show k + 1 + j = k + (j + 1) by omega]; exact hfj)
theorem selF_pair (f : Nat → Bool) {R : Oper → Oper → Prop} : ∀ (l : List Oper) (k : Nat), (∀ (i j : Nat) (x y : Oper), i < j → l[i]? = some x → l[j]? = some y → R x y) → (selF f k l).Pairwise R
  | [], _, _ => by simp [selF]
  | x :: r, k, h => by
    have ih := selF_pair f r (k + 1) fun i j a b hij ha hb => h (i + 1) (j + 1) a b (by omega) (by simpa using ha) (by simpa using hb)
    unfold selF
    split
    · refine List.pairwise_cons.2 ⟨fun y hy => ?_, ih⟩
      obtain ⟨j, h1, _⟩ := selF_mem f r (k + 1) y hy
      exact h 0 (j + 1) x y (by omega) rfl (by simpa using h1)
    · exact ih
def Region.partB (ops : Array Oper) (b : Nat) (T : Nat → Bool) : Bool :=
  Region.noSelect ops && decide (b < ops.size) && !T b &&
  ((List.range ops.size).all fun i => match ops[i]? with | some o => o.after.all fun e => !Region.binds .any e || decide (e.on < i) | none => true) &&
  ((List.range ops.size).all fun i => (List.range ops.size).all fun j => Region.flowPair ops i j) &&
  (match ops[b]? with | some o => o.guard.isNone | none => false) &&
  ((List.range ops.size).all fun i => T i || ((List.range ops.size).all fun j => !(T j || j == b) || (i == b && j == b) || Region.blindTo ops i j)) &&
  ((List.range ops.size).all fun i => !T i || (List.range ops.size).any fun k => (k == b || T k) && Region.waitsFor .any ops i k)
structure PartFlow (ops : Array Oper) (b : Nat) (T : Nat → Bool) (ob : Oper) (W : World) (a0 A1 : Act) (A2 : Value → Act) (D : Value → World → Prop) (listed : Array Bool) (a : Act) (w : World) (v : Value) : Prop where
  lsize : listed.size = ops.size
  later : Below W.heap.size W w
  size : a.tmps.size = a0.tmps.size
  defers : a.defers = a0.defers
  slot : ∀ (j : Nat) (o : Oper) (t : Nat), ops[j]? = some o → o.dst = some t → j ≠ b → a.tmps[t]? = if listed.getD j false = true then (if T j then (A2 v).tmps[t]? else A1.tmps[t]?) else a0.tmps[t]?
  slotb : ∀ t, ob.dst = some t → a.tmps[t]? = if listed.getD b false = true then a0.tmps[t]?.map (fun _ => v) else a0.tmps[t]?
  other : ∀ t, (∀ (j : Nat) (o : Oper), ops[j]? = some o → o.dst ≠ some t) → a.tmps[t]? = a0.tmps[t]?
  tb : ∀ k, T k = true → listed.getD k false = true → listed.getD b false = true
  box : listed.getD b false = true → D v w
variable {P : Program} {l : List Oper} {b : Nat} {T : Nat → Bool} {ob : Oper} {W : World} {a0 A1 : Act} {A2 : Value → Act} {D : Value → World → Prop} {Q : Exit → Act → World → Prop}
theorem part_run (hB : Region.partB l.toArray b T = true) (hob : l[b]? = some ob)
    (hq : ∀ Y : Later W, wpQuiet P l.toArray (fun w' => ∃ X : Later2 Y, w' = X.w) (fun a' => a' = A1) (selF (fun i => !T i && !(i == b)) 0 l) a0)
    (hb : ∀ w, Below W.heap.size W w → ∃ fn args, (execOp A1.eval ob).run P w = .ok (.enter fn args) w ∧ Calls P fn args w fun e w' => ∃ v, e = .returned v ∧ D v w' ∧ Below w.heap.size w w')
    (hBp : ∀ v w w', D v w → Below w.heap.size w w' → D v w')
    (hqT : ∀ v w, Below W.heap.size W w → D v w → wpQuiet P l.toArray (fun w' => ∃ X : Later w, w' = X.w) (fun a' => a' = A2 v) (selF T 0 l) (A1.put ob.dst v))
    (ht : ∀ v w, Below W.heap.size W w → D v w → Q .normal (A2 v) w) :
    ∀ (f : Nat) (U : List Nat) (listed : Array Bool) (a : Act) (w : World) (vb : Value), U.length = f → U.Nodup → (∀ i, i ∈ U ↔ i < l.toArray.size ∧ listed.getD i false = false) →
      PartFlow l.toArray b T ob W a0 A1 A2 D listed a w vb → wpAny P .any l.toArray Q f listed a w := by
  simp only [Region.partB, Bool.and_eq_true, decide_eq_true_eq, List.all_eq_true, List.mem_range, Bool.not_eq_true'] at hB
  obtain ⟨⟨⟨⟨⟨⟨⟨hsel, hbn⟩, hTb⟩, hedge⟩, hpair⟩, hguard⟩, hblind⟩, hTw⟩ := hB
  have hget : ∀ i : Nat, l.toArray[i]? = l[i]? := fun i => by simp
  have hselect := Region.noSelect_spec hsel
  have hlt : ∀ {i : Nat} {o : Oper}, l.toArray[i]? = some o → i < l.toArray.size := fun h => (Array.getElem?_eq_some_iff.1 h).1
  have hobA : l.toArray[b]? = some ob := by rw [hget]; exact hob
  have hdist : ∀ {i j : Nat} {x y : Oper}, l.toArray[i]? = some x → l.toArray[j]? = some y → i ≠ j → ∀ t, x.dst = some t → y.dst ≠ some t := fun hi hj hne t hd =>
    Region.flowPair_dst (hpair _ (hlt hi) _ (hlt hj)) hi hj hne hd
  have hpw : ∀ g : Nat → Bool, (selF g 0 l).Pairwise (fun o o' => ∀ t, o.dst = some t → o'.dst ≠ some t) := fun g =>
    selF_pair g l 0 fun i j x y hij hx hy => hdist (by rw [hget]; exact hx) (by rw [hget]; exact hy) (by omega)
  have hHm : ∀ o, o ∈ selF (fun i => !T i && !(i == b)) 0 l → ∃ j : Nat, l.toArray[j]? = some o ∧ T j = false ∧ j ≠ b := fun o ho => by
    obtain ⟨j, h1, h2⟩ := selF_mem _ l 0 o ho
    simp only [Nat.zero_add, Bool.and_eq_true, Bool.not_eq_true', beq_eq_false_iff_ne] at h2
    exact ⟨j, by rw [hget]; exact h1, h2.1, h2.2⟩
  have hTm : ∀ o, o ∈ selF T 0 l → ∃ j : Nat, l.toArray[j]? = some o ∧ T j = true := fun o ho => by
    obtain ⟨j, h1, h2⟩ := selF_mem _ l 0 o ho
    rw [Nat.zero_add] at h2
    exact ⟨j, by rw [hget]; exact h1, h2⟩
  have hA := quiet_text _ _ (hq ⟨W, Below.refl _ _⟩) (hpw _)
  have hAo : ∀ t, (∀ (j : Nat) (o : Oper), l.toArray[j]? = some o → T j = false → j ≠ b → o.dst ≠ some t) → A1.tmps[t]? = a0.tmps[t]? := fun t h => hA.1 t fun o ho => by
    obtain ⟨j, h1, h2, h3⟩ := hHm o ho
    exact h j o h1 h2 h3
  have hAs := hA.2.1
  have hAd := hA.2.2.1
  have hTT := fun (v : Value) (w : World) (h1 : Below W.heap.size W w) (h2 : D v w) => quiet_text _ _ (hqT v w h1 h2) (hpw T)
  have hTo : ∀ v w, Below W.heap.size W w → D v w → ∀ t, (∀ (j : Nat) (o : Oper), l.toArray[j]? = some o → T j = true → o.dst ≠ some t) → (A2 v).tmps[t]? = (A1.put ob.dst v).tmps[t]? := fun v w h1 h2 t h => (hTT v w h1 h2).1 t fun o ho => by
    obtain ⟨j, h3, h4⟩ := hTm o ho
    exact h j o h3 h4
  intro f
  induction f with
  | zero =>
    intro U listed a w vb hU _ hUm hF
    obtain rfl : U = [] := List.eq_nil_of_length_eq_zero hU
    have hall : ∀ i, i < l.toArray.size → listed.getD i false = true := fun i hi => by
      cases h : listed.getD i false with
      | true => rfl
      | false => have := (hUm i).2 ⟨hi, h⟩; simp at this
    have hbt := hall b hbn
    have hD := hF.box hbt
    refine ⟨?_, ?_⟩
    · rw [List.eq_nil_iff_forall_not_mem]
      intro j hj
      obtain ⟨h1, o, ho, _⟩ := mem_ready.1 hj
      have h2 := hall j (hlt ho)
      rw [getD_both h1] at h2; cases h2
    have ha : a = A2 vb := by
      have hTs := hTT vb w hF.later hD
      have htm : a.tmps = (A2 vb).tmps := by
        apply Array.ext_getElem?
        intro t
        by_cases hbd : ob.dst = some t
        · have e1 := hTo vb w hF.later hD t fun j o h1 h2 h3 => hdist hobA h1 (fun e => by subst e; rw [hTb] at h2; cases h2) t hbd h3
          rw [e1, put_get, if_pos hbd, hF.slotb t hbd, if_pos hbt, hAo t fun j o h1 _ h3 h4 => hdist hobA h1 (Ne.symm h3) t hbd h4]
        · by_cases h : ∃ (j : Nat) (o : Oper), l.toArray[j]? = some o ∧ o.dst = some t
          · obtain ⟨j, o, h2, h3⟩ := h
            have hjb : j ≠ b := fun e => by subst e; rw [hobA] at h2; cases h2; exact hbd h3
            rw [hF.slot j o t h2 h3 hjb, if_pos (hall j (hlt h2))]
            cases hTj : T j with
            | true => rfl
            | false =>
              have e1 := hTo vb w hF.later hD t fun j' o' h1' h2' h3' => hdist h2 h1' (fun e => by subst e; rw [hTj] at h2'; cases h2') t h3 h3'
              rw [e1, put_get, if_neg hbd]; rfl
          · have h' : ∀ (j : Nat) (o : Oper), l.toArray[j]? = some o → o.dst ≠ some t := fun j o h2 h3 => h ⟨j, o, h2, h3⟩
            rw [hF.other t h', hTo vb w hF.later hD t fun j o h1 _ => h' j o h1, put_get, if_neg hbd, hAo t fun j o h1 _ _ => h' j o h1]
      have hd : a.defers = (A2 vb).defers := by rw [hTs.2.2.1, put_defers, hAd, hF.defers]
      cases a; simp only at htm hd; cases hX : A2 vb; rw [hX] at htm hd; simp only at htm hd; rw [htm, hd]
    rw [ha]
    exact ht vb w hF.later hD
  | succ f ih =>
    intro U listed a w vb hU hnd hUm hF
    obtain ⟨i0, hi0, hleast⟩ := exists_leastM U (fun e => by rw [e] at hU; simp at hU)
    obtain ⟨hi0n, hi0u⟩ := (hUm i0).1 hi0
    have hin : ∀ i, i < l.toArray.size → i < listed.size := fun i hi => by rw [hF.lsize]; exact hi
    have hready : i0 ∈ Region.ready .any l.toArray listed := by
      refine mem_ready.2 ⟨getD_in (hin _ hi0n) hi0u, l.toArray[i0], Array.getElem?_eq_getElem hi0n, fun e he hbd => ?_⟩
      have h1 := hedge i0 hi0n
      rw [Array.getElem?_eq_getElem hi0n] at h1
      simp only [Array.all_eq_true_iff_forall_mem] at h1
      have h2 := h1 e he
      simp only [hbd, Bool.not_true, Bool.false_or, decide_eq_true_eq] at h2
      cases h : listed.getD e.on false with
      | true => rfl
      | false =>
        have := hleast e.on ((hUm e.on).2 ⟨by omega, h⟩)
        omega
    refine ⟨fun h => (by rw [h] at hready; cases hready), fun i hi => ?_⟩
    obtain ⟨hiu, o, ho, hdep⟩ := mem_ready.1 hi
    have hilt := hlt ho
    have hiU : i ∈ U := (hUm i).2 ⟨hilt, getD_both hiu⟩
    have hlist : ∀ j, (listed.setIfInBounds i true).getD j false = if j = i then true else listed.getD j false := fun j => by
      by_cases h : j = i
      · subst h; rw [if_pos rfl]; simp [hin j hilt]
      · rw [if_neg h, getD_set_ne false (Ne.symm h)]
    have hUm' : ∀ j, j ∈ U.erase i ↔ j < l.toArray.size ∧ (listed.setIfInBounds i true).getD j false = false := fun j => by
      rw [hnd.mem_erase_iff, hUm j, hlist j]
      by_cases h : j = i
      · simp [h]
      · simp [h]
    have hlen' : (U.erase i).length = f := by rw [List.length_erase_of_mem hiU]; omega
    have hnd' := hnd.erase i
    have hls' : (listed.setIfInBounds i true).size = l.toArray.size := by simp [hF.lsize]
    have hseen : ∀ t ∈ o.looksAt l.toArray, ∀ (j : Nat) (oj : Oper), l.toArray[j]? = some oj → oj.dst = some t → i ≠ j ∧ j < i ∧ listed.getD j false = true := by
      intro t ht j oj hoj hd
      have hne : i ≠ j := fun e => by
        subst e
        rw [ho] at hoj; cases hoj
        exact Region.flowPair_self (hpair i hilt i hilt) ho hd ht
      have h1 := Region.flowPair_looks (hpair i hilt j (hlt hoj)) ho hoj hne hd ht
      obtain ⟨o', ho', e, he, hbd, hon⟩ := Region.waitsFor_spec h1.2
      rw [ho] at ho'; cases ho'
      have := hdep e he hbd
      rw [hon] at this
      exact ⟨hne, h1.1, this⟩
    have hblin : T i = false → ∀ t ∈ o.looksAt l.toArray, ∀ (j : Nat) (oj : Oper), l.toArray[j]? = some oj → oj.dst = some t → T j = false ∧ (i = b ∨ j ≠ b) := fun hTi t ht j oj hoj hd => by
      have h1 := hblind i hilt
      rw [Bool.or_eq_true] at h1
      have h2 := List.all_eq_true.1 (h1.resolve_left (by rw [hTi]; simp)) j (List.mem_range.2 (hlt hoj))
      simp only [Bool.or_eq_true, Bool.not_eq_true', Bool.or_eq_false_iff, Bool.and_eq_true, beq_iff_eq, beq_eq_false_iff_ne] at h2
      rcases h2 with (h2 | h2) | h2
      · exact ⟨h2.1, .inr h2.2⟩
      · exact ⟨by rw [h2.2]; exact hTb, .inl h2.1⟩
      · exact absurd ht (Region.blindTo_spec h2 ho hoj hd)
    by_cases hib : i = b
    · subst hib
      rw [hobA] at ho; cases ho
      have hg : ob.guard = none := by rw [hobA] at hguard; simpa using hguard
      obtain ⟨fn, args, hrun, hcall⟩ := hb w hF.later
      have hex : execOp a.eval ob = execOp A1.eval ob := (seen_alike (ops := l.toArray) (fun cs bb => hselect i ob cs bb hobA) fun t htl => by
        by_cases h : ∃ (j : Nat) (o : Oper), l.toArray[j]? = some o ∧ o.dst = some t
        · obtain ⟨j, oj, h2, h3⟩ := h
          obtain ⟨k1, k2, k3⟩ := hseen t htl j oj h2 h3
          rw [hF.slot j oj t h2 h3 (Ne.symm k1), if_pos k3, (hblin hTb t htl j oj h2 h3).1]; rfl
        · have h' : ∀ (j : Nat) (o : Oper), l.toArray[j]? = some o → o.dst ≠ some t := fun j o h2 h3 => h ⟨j, o, h2, h3⟩
          rw [hF.other t h', hAo t fun j o h1 _ _ => h' j o h1]).1
      unfold wpOp
      simp only [hobA]
      rw [if_pos (by simp [Region.wanted, hg])]
      refine .inl ?_
      unfold Oper.wp
      rw [hex, hrun, Oper.upon_enter]
      refine hcall.mono ?_
      rintro _ w' ⟨v', rfl, hbox, hbel⟩
      refine ih (U.erase i) _ _ _ v' hlen' hnd' hUm' ⟨hls', hF.later.trans (hbel.mono hF.later.size), by rw [put_size, hF.size], by rw [put_defers, hF.defers], ?_, ?_, ?_, ?_, fun _ => hbox⟩
      · intro j oj t hoj hd hjb
        have hne : ob.dst ≠ some t := fun h => hdist hobA hoj (Ne.symm hjb) t h hd
        rw [put_get, if_neg hne, hF.slot j oj t hoj hd hjb, hlist j, if_neg hjb]
        by_cases hTj : T j = true
        · have hjn : listed.getD j false = false := by
            cases h : listed.getD j false with
            | false => rfl
            | true => have := hF.tb j hTj h; rw [getD_both hiu] at this; cases this
          rw [if_neg (by rw [hjn]; simp), if_neg (by rw [hjn]; simp)]
        · rw [if_neg hTj, if_neg hTj]
      · intro t hd
        rw [put_get, if_pos hd, hlist i, if_pos rfl, if_pos rfl, hF.slotb t hd, if_neg (by rw [getD_both hiu]; simp)]
      · intro t h
        rw [put_get, if_neg (h i ob hobA), hF.other t h]
      · intro k _ _
        rw [hlist i, if_pos rfl]
    · have hol : l[i]? = some o := by rw [← hget]; exact ho
      cases hTi : T i with
      | false =>
        obtain ⟨pre, post, hsplit, hpre1, hpre2⟩ := selF_split (fun i => !T i && !(i == b)) l 0 i o hol (by rw [Nat.zero_add]; simp [hTi, hib])
        obtain ⟨_, _, _, htext⟩ := quiet_text _ _ (hq ⟨w, hF.later⟩) (hpw _)
        obtain ⟨ai, v, hy, t1, t2, t3⟩ := htext _ o _ hsplit
        have hal := seen_alike (ops := l.toArray) (o := o) (a := a) (a' := ai) (fun cs bb => hselect i o cs bb ho) fun t htl => by
          by_cases h : ∃ (j : Nat) (o : Oper), l.toArray[j]? = some o ∧ o.dst = some t
          · obtain ⟨j, oj, h2, h3⟩ := h
            obtain ⟨k1, k2, k3⟩ := hseen t htl j oj h2 h3
            obtain ⟨hTj, hjb⟩ := hblin hTi t htl j oj h2 h3
            have hjb := hjb.resolve_left hib
            rw [hF.slot j oj t h2 h3 hjb, if_pos k3, hTj]
            refine (t1 t ⟨oj, hpre2 j oj k2 (by rw [← hget]; exact h2) (by rw [Nat.zero_add]; simp [hTj, hjb]), h3⟩).symm
          · have h' : ∀ (j : Nat) (o : Oper), l.toArray[j]? = some o → o.dst ≠ some t := fun j o h2 h3 => h ⟨j, o, h2, h3⟩
            rw [hF.other t h']
            refine (t2 t fun p hp => ?_).symm
            obtain ⟨j, _, h2, _⟩ := hpre1 p hp
            exact h' j p (by rw [hget]; exact h2)
        have hy' := hy.of_same hal.1 hal.2
        have hqo := hy'.qOp (K := fun a' => a' = a.put o.dst v) ho rfl
        refine wpOp_of_qOp ⟨⟨w, Below.refl _ _⟩, rfl⟩ ?_ hqo
        rintro a' w' ⟨X, rfl⟩ rfl
        have hX := X.h
        refine ih (U.erase i) _ _ _ vb hlen' hnd' hUm' ⟨hls', hF.later.trans (hX.mono hF.later.size), by rw [put_size, hF.size], by rw [put_defers, hF.defers], ?_, ?_, ?_, ?_, ?_⟩
        · intro j oj t hoj hd hjb
          rw [put_get, hlist j]
          by_cases hji : j = i
          · subst hji
            rw [ho] at hoj; cases hoj
            rw [if_pos hd, if_pos rfl, if_pos rfl, hTi, hF.slot j o t ho hd hjb, if_neg (by rw [getD_both hiu]; simp)]
            exact (t3 t hd).symm
          · have hne : o.dst ≠ some t := fun h => hdist ho hoj (Ne.symm hji) t h hd
            rw [if_neg hne, if_neg hji, hF.slot j oj t hoj hd hjb]
        · intro t hd
          have hne : o.dst ≠ some t := fun h => hdist ho hobA hib t h hd
          rw [put_get, if_neg hne, hF.slotb t hd, hlist b, if_neg (Ne.symm hib)]
        · intro t h
          rw [put_get, if_neg (h i o ho), hF.other t h]
        · intro k hk1 hk2
          rw [hlist k] at hk2
          have hki : k ≠ i := fun e => by subst e; rw [hTi] at hk1; cases hk1
          rw [if_neg hki] at hk2
          rw [hlist b, if_neg (Ne.symm hib)]
          exact hF.tb k hk1 hk2
        · intro h
          rw [hlist b, if_neg (Ne.symm hib)] at h
          exact hBp vb w _ (hF.box h) hX
      | true =>
        have hbt : listed.getD b false = true := by
          have h1 := hTw i hilt
          rw [Bool.or_eq_true] at h1
          obtain ⟨k, _, h2⟩ := List.any_eq_true.1 (h1.resolve_left (by rw [hTi]; simp))
          simp only [Bool.and_eq_true, Bool.or_eq_true, beq_iff_eq] at h2
          obtain ⟨o', ho', e, he, hbd, hon⟩ := Region.waitsFor_spec h2.2
          rw [ho] at ho'; cases ho'
          have h3 := hdep e he hbd
          rw [hon] at h3
          rcases h2.1 with rfl | h4
          · exact h3
          · exact hF.tb k h4 h3
        have hD := hF.box hbt
        obtain ⟨pre, post, hsplit, hpre1, hpre2⟩ := selF_split T l 0 i o hol (by rw [Nat.zero_add]; exact hTi)
        obtain ⟨_, _, _, htext⟩ := hTT vb w hF.later hD
        obtain ⟨ai, v, hy, t1, t2, t3⟩ := htext _ o _ hsplit
        have hpo : ∀ t, (∀ (j : Nat) (oj : Oper), l.toArray[j]? = some oj → T j = true → oj.dst ≠ some t) → ai.tmps[t]? = (A1.put ob.dst vb).tmps[t]? := fun t h => t2 t fun p hp => by
          obtain ⟨j, _, h2, h3⟩ := hpre1 p hp
          rw [Nat.zero_add] at h3
          exact h j p (by rw [hget]; exact h2) h3
        have hal := seen_alike (ops := l.toArray) (o := o) (a := a) (a' := ai) (fun cs bb => hselect i o cs bb ho) fun t htl => by
          by_cases hbd : ob.dst = some t
          · rw [hpo t fun j oj h1 h2 h3 => hdist hobA h1 (fun e => by subst e; rw [hTb] at h2; cases h2) t hbd h3, put_get, if_pos hbd, hF.slotb t hbd, if_pos hbt, hAo t fun j o h1 _ h3 h4 => hdist hobA h1 (Ne.symm h3) t hbd h4]
          · by_cases h : ∃ (j : Nat) (o : Oper), l.toArray[j]? = some o ∧ o.dst = some t
            · obtain ⟨j, oj, h2, h3⟩ := h
              obtain ⟨k1, k2, k3⟩ := hseen t htl j oj h2 h3
              have hjb : j ≠ b := fun e => by subst e; rw [hobA] at h2; cases h2; exact hbd h3
              rw [hF.slot j oj t h2 h3 hjb, if_pos k3]
              cases hTj : T j with
              | true => exact (t1 t ⟨oj, hpre2 j oj k2 (by rw [← hget]; exact h2) (by rw [Nat.zero_add]; exact hTj), h3⟩).symm
              | false =>
                rw [hpo t fun j' o' h1' h2' h3' => hdist h2 h1' (fun e => by subst e; rw [hTj] at h2'; cases h2') t h3 h3', put_get, if_neg hbd]; rfl
            · have h' : ∀ (j : Nat) (o : Oper), l.toArray[j]? = some o → o.dst ≠ some t := fun j o h2 h3 => h ⟨j, o, h2, h3⟩
              rw [hF.other t h', hpo t fun j o h1 _ => h' j o h1, put_get, if_neg hbd, hAo t fun j o h1 _ _ => h' j o h1]
        have hy' := hy.of_same hal.1 hal.2
        have hqo := hy'.qOp (K := fun a' => a' = a.put o.dst v) ho rfl
        refine wpOp_of_qOp ⟨⟨w, Below.refl _ _⟩, rfl⟩ ?_ hqo
        rintro a' w' ⟨X, rfl⟩ rfl
        have hX := X.h
        refine ih (U.erase i) _ _ _ vb hlen' hnd' hUm' ⟨hls', hF.later.trans (hX.mono hF.later.size), by rw [put_size, hF.size], by rw [put_defers, hF.defers], ?_, ?_, ?_, ?_, ?_⟩
        · intro j oj t hoj hd hjb
          rw [put_get, hlist j]
          by_cases hji : j = i
          · subst hji
            rw [ho] at hoj; cases hoj
            rw [if_pos hd, if_pos rfl, if_pos rfl, hTi, hF.slot j o t ho hd hjb, if_neg (by rw [getD_both hiu]; simp)]
            have e1 := t3 t hd
            have hbd : ob.dst ≠ some t := fun h => hdist hobA ho (Ne.symm hjb) t h hd
            rw [put_get, if_neg hbd, hAo t fun j' o' h1 h2 h3 h4 => hdist ho h1 (fun e => by subst e; rw [hTi] at h2; cases h2) t hd h4] at e1
            exact e1.symm
          · have hne : o.dst ≠ some t := fun h => hdist ho hoj (Ne.symm hji) t h hd
            rw [if_neg hne, if_neg hji, hF.slot j oj t hoj hd hjb]
        · intro t hd
          have hne : o.dst ≠ some t := fun h => hdist ho hobA hib t h hd
          rw [put_get, if_neg hne, hF.slotb t hd, hlist b, if_neg (Ne.symm hib)]
        · intro t h
          rw [put_get, if_neg (h i o ho), hF.other t h]
        · intro k _ _
          rw [hlist b, if_neg (Ne.symm hib)]
          exact hbt
        · intro h
          rw [hlist b, if_neg (Ne.symm hib)] at h
          exact hBp vb w _ (hF.box h) hX
theorem wp_region_part {id : Nat} (b : Nat) (T : Nat → Bool) (ob : Oper) (D : Value → World → Prop) (hm : P.follows .mixedOrders = true) (hB : Region.partB l.toArray b T = true) (hob : l[b]? = some ob)
    (hBp : ∀ v w w', D v w → Below w.heap.size w w' → D v w')
    (hh : ∃ A1, (∀ Y : Later W, wpQuiet P l.toArray (fun w' => ∃ X : Later2 Y, w' = X.w) (fun a' => a' = A1) (selF (fun i => !T i && !(i == b)) 0 l) a0) ∧
      (∀ w, Below W.heap.size W w → ∃ fn args, (execOp A1.eval ob).run P w = .ok (.enter fn args) w ∧ Calls P fn args w fun e w' => ∃ v, e = .returned v ∧ D v w' ∧ Below w.heap.size w w') ∧
        ∃ A2 : Value → Act, (∀ v w, Below W.heap.size W w → D v w → wpQuiet P l.toArray (fun w' => ∃ X : Later w, w' = X.w) (fun a' => a' = A2 v) (selF T 0 l) (A1.put ob.dst v)) ∧
          ∀ v w, Below W.heap.size W w → D v w → Q .normal (A2 v) w) :
    (Code.region id l.toArray true).wp P Q a0 W := by
  obtain ⟨A1, hq, hb, A2, hqT, ht⟩ := hh
  refine wp_region_any hm ?_
  exact part_run (W := W) (a0 := a0) (A1 := A1) (A2 := A2) (D := D) (Q := Q) hB hob hq hb hBp hqT ht l.toArray.size (List.range l.toArray.size) (Array.replicate l.toArray.size false) a0 { W with drawn := W.drawn + 1 } undef (by simp) List.nodup_range (fun i => by rw [List.mem_range]; exact ⟨fun h => ⟨h, getD_replicate_false _ _⟩, fun h => h.1⟩)
    ⟨by simp, ⟨rfl, rfl, rfl, Nat.le_refl _, fun _ _ => rfl⟩, rfl, rfl, fun j o t _ _ _ => by rw [getD_replicate_false]; rfl, fun t _ => by rw [getD_replicate_false]; rfl, fun _ _ => rfl, fun k _ h => (by rw [getD_replicate_false] at h; cases h), fun h => by rw [getD_replicate_false] at h; cases h⟩
theorem wp_region_partG {id : Nat} (b : Nat) (T : Nat → Bool) (ob : Oper) (D : Value → World → Prop) (G : Act → Value → Act) (hm : P.follows .mixedOrders = true) (hB : Region.partB l.toArray b T = true) (hob : l[b]? = some ob)
    (hBp : ∀ v w w', D v w → Below w.heap.size w w' → D v w')
    (hh : ∃ A1, (∀ Y : Later W, wpQuiet P l.toArray (fun w' => ∃ X : Later2 Y, w' = X.w) (fun a' => a' = A1) (selF (fun i => !T i && !(i == b)) 0 l) a0) ∧
      (∀ w, Below W.heap.size W w → ∃ fn args, (execOp A1.eval ob).run P w = .ok (.enter fn args) w ∧ Calls P fn args w fun e w' => ∃ v, e = .returned v ∧ D v w' ∧ Below w.heap.size w w') ∧
        (∀ v w, Below W.heap.size W w → D v w → wpQuiet P l.toArray (fun w' => ∃ X : Later w, w' = X.w) (fun a' => a' = G A1 v) (selF T 0 l) (A1.put ob.dst v)) ∧
          ∀ v w, Below W.heap.size W w → D v w → Q .normal (G A1 v) w) :
    (Code.region id l.toArray true).wp P Q a0 W := by
  obtain ⟨A1, hq, hb, hqT, ht⟩ := hh
  exact wp_region_part b T ob D hm hB hob hBp ⟨A1, hq, hb, G A1, hqT, ht⟩
end
end Go
/- Walks: CheckTasks of the reference. -/
namespace Go.Proofs.YtahpdkkpnkhnhaaGreatDoor
open Go Go.Proofs Go.RowKit Go.Shelf
def TsAt (w : World) (B : Nat) (uu : Option Addr) (n : Nat) (ts : List Tk) : Prop :=
  0 < n → ∃ b off, uu = some ⟨b, off, none⟩ ∧ b < B ∧ ∀ i, i < n → ∃ au cu, At w b (off + i * 3) [.slice au (ts.getD i tk0).path.length cu, .string (ts.getD i tk0).grain, .int .i64 (ts.getD i tk0).run] ∧ Sl encI 1 w B (.slice au (ts.getD i tk0).path.length cu) (ts.getD i tk0).path
theorem TasksR.open_ {w : World} {B : Nat} {u : Value} {ts : List Tk} (h : TasksR w B u ts) : ∃ uu cu, u = .slice uu ts.length cu ∧ ts.length ≤ 1000000000 ∧ ts.length ≤ cu ∧ TsAt w B uu ts.length ts := by
  obtain ⟨uu, cu, e, hl, hU⟩ := h
  refine ⟨uu, cu, e, hl.1, hl.2, fun h0 => ?_⟩
  obtain ⟨b, off, e, hb, hc⟩ := hU h0
  refine ⟨b, off, e, hb, fun i hi => ?_⟩
  rw [tkGet hi]; exact hc i hi
set_option maxRecDepth 100000 in
set_option maxHeartbeats 1000000 in
theorem checkTasks52 (w : World) (v1 v2 u : Value) (p : Pl) (ts : List Tk) (hv : PlR w w.heap.size v1 v2 p) (hu : TasksR w w.heap.size u ts) (hs : SzT ts) : Calls Tryz.prog 52 #[.agg #[v1, v2], u] w (Ret (.int .i64 (ckTasks p ts)) w) := by
  have HCP := Lib.hid (fun (w1 : World) (hb : Below w.heap.size w w1) => ckPlant19 w1 _ _ p (hv.later hb))
  have HCK := Lib.hid (fun (w1 : World) (hb : Below w.heap.size w w1) (v : Value) (l : List Int) (hl : Sl encI 1 w w.heap.size v l) => checkPath22 w1 _ _ v p l (hv.later hb) (hl.later hb))
  have HSZ := Lib.hid (fun i (hi : i < ts.length) => show (ts.getD i tk0).grain.size ≤ 9223372036854775807 by rw [tkGet hi]; exact hs _ (List.getElem_mem hi))
  obtain ⟨uu, cu, rfl, hlu, hlc, hU⟩ := hu.open_
  have HU := Lib.hid hU
  have HDR := Lib.hid (fun k (h : k < ts.length) => show ckTkL p (ts.drop k) = if ckTk p (ts.getD k tk0) ≠ 0 then ckTk p (ts.getD k tk0) else ckTkL p (ts.drop (k + 1)) by rw [tkGet h]; exact ckTkL_drop p ts k h)
  have HTK := Lib.hid (fun t : Tk => show ckTk p t = if pathE p t.path ≠ 0 then pathE p t.path else if isName t.grain = false then 8 else if t.run < 1 ∨ 100000 < t.run then 3 else 0 from rfl)
  obtain ⟨a1, n1, a2, n2, rfl, rfl⟩ := hv.agg
  obtain ⟨R, hR⟩ : ∃ R, ckTasks p ts = R := ⟨_, rfl⟩
  rw [hR]
  unfold ckTasks at hR
  have HR := Lib.hid hR
  clear hR hv hu hU hs
  have HB := Lib.hid ((Below.refl w.heap.size w).alloc (Nat.le_refl _) (.cells #[.slice a1 p.ms.length n1, .slice a2 p.arcs.length n2] 25))
  have HX := Lib.hid (Box.new w #[.slice a1 p.ms.length n1, .slice a2 p.arcs.length n2] 25)
  obtain ⟨n, hn⟩ : ∃ n, p.ms.length = n := ⟨_, rfl⟩
  obtain ⟨m, hm⟩ : ∃ n, p.arcs.length = n := ⟨_, rfl⟩
  obtain ⟨nt, hnt⟩ : ∃ n, ts.length = n := ⟨_, rfl⟩
  obtain ⟨cp, hcp⟩ : ∃ n, ckPlant p = n := ⟨_, rfl⟩
  rw [hn] at HB HX HCP HCK ⊢
  rw [hm] at HB HX HCP HCK ⊢
  have HNT := Lib.hid hnt
  rw [hnt] at HU HSZ HDR HR hlu hlc ⊢
  rw [hcp] at HCP HR
  clear hn hm hnt hcp
  obtain ⟨W1, hW1⟩ : ∃ W, w.alloc (.cells #[.slice a1 n n1, .slice a2 m n2] 25) = W := ⟨_, rfl⟩
  rw [hW1] at HB HX
  obtain ⟨x0, x1, xf, xz⟩ := HX.out.v2
  go_enter Tryz.func52, Tryz.ntmps52
  go_wp2_with fail
  try rw [hW1]
  clear hW1
  refine (HCP.out _ HB.out).mono ?_
  rintro e w2 ⟨rfl, hb2⟩
  have HB2 := Lib.hid (HB.out.trans (hb2.mono HB.out.size))
  have HX2 := Lib.hid (HX.out.later hb2)
  clear x0 x1 xf xz hb2 HB HX
  by_cases h0 : cp = 0
  rotate_left
  · have k0 : (cp != 0) = true := by simpa using h0
    have HV := Lib.hid (show cp = R by rw [← HR.out, if_pos h0])
    go_wp2_with fail
    go_ret
    exact ⟨by rw [HV.out]; rfl, HB2.out⟩
  subst h0
  by_cases h1 : 16 < nt
  · have d0 : decide ((16 : Int) < (nt : Int)) = true := decide_eq_true (by omega)
    have HV := Lib.hid (show R = 5 by rw [← HR.out, if_neg (show ¬ (0 : Int) ≠ 0 by simp), if_pos h1])
    go_wp2_with fail
    go_ret
    exact ⟨by rw [HV.out]; rfl, HB2.out⟩
  have d0 : decide ((16 : Int) < (nt : Int)) = false := decide_eq_false (by omega)
  have HRL := Lib.hid (show ckTkL p (ts.drop 0) = R by rw [← HR.out, if_neg (show ¬ (0 : Int) ≠ 0 by simp), if_neg h1]; rfl)
  clear h1 HR
  go_wp2_with fail
  clear d0
  go_loopw [6] (fun i wr => ∃ k : Nat, k ≤ nt ∧ i = .int .i64 k ∧ Below w2.heap.size w2 wr ∧ ckTkL p (ts.drop k) = R) (fun i _ => nt - (intOf i).toNat)
  case atStart => exact ⟨0, by omega, rfl, Below.refl _ _, HRL.out⟩
  case round =>
    clear HRL
    obtain ⟨k, hk, rfl, hbe, hrl⟩ := hrel
    have HB3 := Lib.hid hbe
    have HBW := Lib.hid (HB2.out.trans (hbe.mono HB2.out.size))
    have HX3 := Lib.hid (HX2.out.later hbe)
    have HRL := Lib.hid hrl
    clear hbe hrl
    by_cases hlt : k < nt
    rotate_left
    · obtain rfl : nt = k := by omega
      have HV := Lib.hid (show R = 0 by rw [← HRL.out, ← HNT.out, List.drop_length]; rfl)
      go_wp2_with fail
      go_ret
      exact ⟨by rw [HV.out]; rfl, HBW.out⟩
    obtain ⟨bT, oT, eT, hbT, hcT⟩ := HU.out (by omega)
    subst eT
    obtain ⟨au, cu1, HT, HSl⟩ := hcT k hlt
    have hgs := HSZ.out k hlt
    have HDK := Lib.hid (HDR.out k hlt)
    rw [HRL.out] at HDK
    obtain ⟨tk, htk⟩ : ∃ t, ts.getD k tk0 = t := ⟨_, rfl⟩
    rw [htk] at HT HSl hgs HDK
    clear htk hcT HRL
    rw [HTK.out] at HDK
    obtain ⟨lk, hlk⟩ : ∃ n, tk.path.length = n := ⟨_, rfl⟩
    rw [hlk] at HT HSl
    have HK := Lib.hid (fun (X : Later wr) => HCK.out X.w (HBW.out.trans (X.h.mono HBW.out.size)) _ _ HSl)
    have HNM := Lib.hid (fun (w1 : World) => isName28 tk.grain w1 hgs)
    have HTT := Lib.hid HT
    obtain ⟨t0, t1, t2⟩ := (HT.below HBW.out hbT).c3
    have hbTz : bT < wr.heap.size := Nat.lt_of_lt_of_le hbT HBW.out.size
    have hkn : (k : Int) < (nt : Int) := by omega
    obtain ⟨pe, hpe⟩ : ∃ e, pathE p tk.path = e := ⟨_, rfl⟩
    obtain ⟨nm, hnm⟩ : ∃ e, isName tk.grain = e := ⟨_, rfl⟩
    rw [hpe] at HK HDK
    rw [hnm] at HNM HDK
    clear hlk hpe hnm HT HSl hgs
    obtain ⟨x0, x1, xf, xz⟩ := HX3.out.v2
    go_wp2_with fail
    refine wp_region_later (by kernel_rfl) (by kernel_rfl) ?_
    repeat go_big_quiet_step ((go_at_call 22; exact Calls.later (HK.out _)))
    refine wpQuiet_nil ?_
    rintro w4 ⟨⟨_, hb4⟩, rfl⟩
    have HB4 := Lib.hid (HB3.out.trans (hb4.mono HB3.out.size))
    have HBW4 := Lib.hid (HBW.out.trans (hb4.mono HBW.out.size))
    clear hb4 t0 t1 t2 hbTz x0 x1 xf xz HK
    obtain ⟨t0, t1, t2⟩ := (HTT.out.below HBW4.out hbT).c3
    have hbTz : bT < w4.heap.size := Nat.lt_of_lt_of_le hbT HBW4.out.size
    by_cases h2 : pe = 0
    rotate_left
    · have k0 : (pe != 0) = true := by simpa using h2
      have HV := Lib.hid (show R = pe by rw [HDK.out, if_pos h2, if_pos h2])
      go_wp2_with fail
      go_ret
      exact ⟨by rw [HV.out]; rfl, HBW4.out⟩
    subst h2
    rw [if_neg (show ¬ (0 : Int) ≠ 0 by simp)] at HDK
    go_wp2_with fail
    refine (HNM.out _).mono ?_
    rintro ex wx ⟨rfl, rfl⟩
    cases nm with
    | false =>
      have HV := Lib.hid (show R = 8 by rw [HDK.out]; rfl)
      go_wp2_with fail
      go_ret
      exact ⟨by rw [HV.out]; rfl, HBW4.out⟩
    | true =>
      rw [if_neg (show ¬ (true = false) by simp)] at HDK
      by_cases h3 : tk.run < 1
      · have d1 : decide (tk.run < 1) = true := decide_eq_true h3
        have HV := Lib.hid (show R = 3 by rw [HDK.out, if_pos (Or.inl h3 : tk.run < 1 ∨ 100000 < tk.run)]; rfl)
        go_wp2_with fail
        go_ret
        exact ⟨by rw [HV.out]; rfl, HBW4.out⟩
      have d1 : decide (tk.run < 1) = false := decide_eq_false h3
      by_cases h4 : 100000 < tk.run
      · have d2 : decide (100000 < tk.run) = true := decide_eq_true h4
        have HV := Lib.hid (show R = 3 by rw [HDK.out, if_pos (Or.inr h4 : tk.run < 1 ∨ 100000 < tk.run)]; rfl)
        go_wp2_with fail
        go_ret
        exact ⟨by rw [HV.out]; rfl, HBW4.out⟩
      have d2 : decide (100000 < tk.run) = false := decide_eq_false h4
      have HV := Lib.hid (show ckTkL p (ts.drop (k + 1)) = R by rw [HDK.out, if_neg (by omega : ¬ (tk.run < 1 ∨ 100000 < tk.run)), if_neg (show ¬ (0 : Int) ≠ 0 by simp)])
      go_wp2_with fail
      go_roundw
      case rel => exact ⟨k + 1, by omega, by go_num, HB4.out, HV.out⟩
      case measure => simp [intOf]; omega
end Go.Proofs.YtahpdkkpnkhnhaaGreatDoor
