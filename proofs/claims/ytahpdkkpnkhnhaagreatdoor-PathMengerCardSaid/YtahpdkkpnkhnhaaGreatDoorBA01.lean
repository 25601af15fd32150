/- Lemmas for the laws of the plant (part 1). -/
import Derived.BigQuiet
import Derived.StillTail
import Derived.WalkKit
import Derived.WalkSpells
import Derived.WalkLawsBesides
import Derived.Lib.Hide
set_option linter.unusedVariables false
set_option linter.unusedSimpArgs false

/- A region whose first operations leave old memory alone, and whose last ones run in a fixed order: one walk in the order of the text serves every order that may be drawn. Worlds that only grew are one class. -/
namespace Go
open Go.RowKit
/-- A world behind W in which all that lay in W lies as it lay. -/
structure Later (W : World) where
  w : World
  h : Below W.heap.size W w
instance (W : World) : Nonempty (Later W) := ⟨⟨W, Below.refl _ _⟩⟩
section
variable {P : Program} {ops : Array Oper} {md : Region.Mode} {C : World → Prop}
/-- Head operations (numbers below n) in whatever order, each quiet in the class; then L. -/
def headQ (P : Program) (md : Region.Mode) (ops : Array Oper) (C : World → Prop) (n : Nat) (L : Array Bool → Act → Prop) : Nat → Array Bool → Act → Prop
  | 0, listed, a => L listed a
  | f + 1, listed, a => Region.ready md ops listed ≠ [] ∧ ∀ i ∈ Region.ready md ops listed, i < n ∧ qOp P ops C i (headQ P md ops C n L f (listed.setIfInBounds i true)) a
theorem wpAny_of_headQ {n g : Nat} {L : Array Bool → Act → Prop} {Q' : Exit → Act → World → Prop} (hL : ∀ listed a w, C w → L listed a → wpAny P md ops Q' g listed a w) :
    ∀ (f : Nat) (listed : Array Bool) (a : Act) (w : World), C w → headQ P md ops C n L f listed a → wpAny P md ops Q' (f + g) listed a w
  | 0, listed, a, w, hw, h => by rw [Nat.zero_add]; exact hL _ _ _ hw h
  | f + 1, listed, a, w, hw, h => by
    rw [show f + 1 + g = (f + g) + 1 by omega]
    exact ⟨fun h0 => absurd h0 h.1, fun i hi => wpOp_of_qOp hw (fun a' w' hw' h' => wpAny_of_headQ hL f _ a' w' hw' h') (h.2 i hi).2⟩
theorem headQ_first {n i : Nat} {oi : Oper} {v : Value} {L : Array Bool → Act → Prop} (hi : ops[i]? = some oi) (hsel : ∀ (j : Nat) (o : Oper) cs b, ops[j]? = some o → o.op ≠ .select cs b)
    (hs : Region.sinkB md ops n = true) (hc : Region.chainB md ops n = true) (hn : n < ops.size) (hin : i < n)
    (hdone : ∀ listed a, L listed a → ∀ j ∈ Region.ready md ops listed, n ≤ j) (f : Nat) :
    ∀ (listed : Array Bool) (a : Act), HeadInv md ops n listed →
      (∀ j oj, ops[j]? = some oj → j ≠ i → listed.getD j true = false → (∀ e ∈ oj.after, Region.binds md e = true → e.on ≠ i) → oi.apart ops oj = true) →
      i ∈ Region.ready md ops listed → YieldsIn P ops C oi v a →
      headQ P md ops C n L f (listed.setIfInBounds i true) (a.put oi.dst v) → headQ P md ops C n L (f + 1) listed a := by
  induction f with
  | zero =>
    intro listed a inv _ hr hy H
    have hun := (mem_ready.1 hr).1
    refine ⟨fun h => (by rw [h] at hr; cases hr), fun j hj => ?_⟩
    have hjn : j < n := Nat.lt_of_not_le fun h => tail_waits hs hc hn inv _ i rfl hin hun j h hj
    by_cases hji : j = i
    · subst hji; exact ⟨hjn, hy.qOp hi H⟩
    · exact absurd (hdone _ _ H j (ready_mono hj hji)) (by omega)
  | succ f ih =>
    intro listed a inv hfree hr hy H
    have hun := (mem_ready.1 hr).1
    refine ⟨fun h => (by rw [h] at hr; cases hr), fun j hj => ?_⟩
    have hjn : j < n := Nat.lt_of_not_le fun h => tail_waits hs hc hn inv _ i rfl hin hun j h hj
    by_cases hji : j = i
    · subst hji; exact ⟨hjn, hy.qOp hi H⟩
    · have h1 := (H.2 j (ready_mono hj hji)).2
      obtain ⟨hjun, oj, hoj, hall⟩ := mem_ready.1 hj
      have hnot : ∀ e ∈ oj.after, Region.binds md e = true → e.on ≠ i := fun e he hb heq => by
        have h1 := hall e he hb
        rw [heq, getD_both hun] at h1
        cases h1
      have h2 := qOp_put hoj (hfree j oj hoj hji hjun hnot) (fun cs b => hsel i oi cs b hi) (fun cs b => hsel j oj cs b hoj) hy h1
      refine ⟨hjn, qOp_mono (fun a' h3 => ih (listed.setIfInBounds j true) a' (inv.set hj hjn) (fun k ok hk hki hk0 hno => hfree k ok hk hki ?_ hno) (ready_mono hr (Ne.symm hji)) h3.1 ?_) h2⟩
      · by_cases hjk : j = k
        · subst hjk; exact hjun
        · rw [getD_set_ne true hjk] at hk0; exact hk0
      · rw [Array.setIfInBounds_comm _ _ hji]; exact h3.2
theorem headQ_lex {n g : Nat} {Lq : Act → Prop} (hsel : Region.noSelect ops = true) (hs : Region.sinkB md ops n = true) (hc : Region.chainB md ops n = true) (hn : n < ops.size) :
    ∀ (l : List Oper) (k : Nat) (listed : Array Bool) (a : Act), (∀ j, j < l.length → l[j]? = ops[k + j]?) → k + l.length = n → HeadInv md ops n listed →
    Region.lexHead md ops g l.length k listed = true → wpQuiet P ops C Lq l a →
    headQ P md ops C n (fun listed' a' => Region.seqB md ops g n listed' = true ∧ Lq a') l.length listed a
  | [], k, listed, a, _, hk, _, hB, h => by
    obtain rfl : k = n := by simpa using hk
    exact ⟨by simpa [Region.lexHead] using hB, h⟩
  | o :: l, k, listed, a, hl, hk, inv, hB, h => by
    have h0 : ops[k]? = some o := by simpa using (hl 0 (by simp)).symm
    simp only [List.length_cons, Region.lexHead, Bool.and_eq_true] at hB
    obtain ⟨⟨hr, hf⟩, hB'⟩ := hB
    have hkn : k < n := by simp only [List.length_cons] at hk; omega
    have hr' : k ∈ Region.ready md ops listed := by simpa using hr
    have hst : qOp P ops C k (wpQuiet P ops C Lq l) a := by unfold qOp; simp only [h0]; exact h
    obtain ⟨v, hy, hK⟩ := yieldsIn_of_qOp h0 hst
    exact headQ_first h0 (Region.noSelect_spec hsel) hs hc hn hkn (fun listed' a' hL => seqB_ready hL.1) l.length listed a inv (Region.free_spec h0 hf) hr' hy
      (headQ_lex hsel hs hc hn l (k + 1) _ _ (fun j hj => by have := hl (j + 1) (by simp; omega); simpa [Nat.add_assoc, Nat.add_comm 1 j] using this) (by simp only [List.length_cons] at hk; omega) (inv.set hr' hkn) hB' hK)
/-- The first n operations quiet in the class, the others behind them in the order of the text. -/
theorem wp_region_head {id : Nat} {Q : Exit → Act → World → Prop} {a : Act} {w : World} {l : List Oper} (n : Nat) (hm : P.follows .mixedOrders = true) (hB : Region.lexTailB .any l.toArray n = true)
    (hC : C { w with drawn := w.drawn + 1 }) (h : wpQuiet P l.toArray C (fun a' => ∀ w', C w' → wpList P l.toArray Q (l.drop n) a' w') (l.take n) a) : (Code.region id l.toArray true).wp P Q a w := by
  simp only [Region.lexTailB, Bool.and_eq_true, decide_eq_true_eq] at hB
  obtain ⟨⟨⟨⟨hsel, hn⟩, hs⟩, hc⟩, hlex⟩ := hB
  have hn' : n < l.length := by simpa using hn
  have htl : (l.take n).length = n := by simp; omega
  have hdl : (l.drop n).length = l.toArray.size - n := by simp
  have inv0 : HeadInv .any l.toArray n (Array.replicate l.toArray.size false) :=
    ⟨by simp, fun j oj _ hl => (by rw [getD_replicate_false] at hl; cases hl), fun t _ ht => getD_in (by simpa using ht) (getD_replicate_false _ _)⟩
  have H := headQ_lex (C := C) (md := .any) (g := l.toArray.size - n) hsel hs hc hn (l.take n) 0 _ a (fun j hj => by
    have hj' : j < n := by rw [htl] at hj; exact hj
    simp [hj']) (by simpa using htl) inv0 (by rw [htl]; exact hlex) h
  refine wp_region_any hm ?_
  have := wpAny_of_headQ (Q' := Q) (g := l.toArray.size - n) (fun listed a' w' hw' hL => by
    have := wpAny_of_seq (md := .any) (Q' := Q) (l.drop n) n listed a' w' (fun j => by simp [List.getElem?_drop]) (by rw [hdl]; exact hL.1) (hL.2 w' hw')
    rwa [hdl] at this) _ _ _ _ hC H
  rw [htl, show n + (l.toArray.size - n) = l.toArray.size by omega] at this
  exact this
/-- The class 'W has only grown'. -/
theorem wp_region_head_later {id : Nat} {Q : Exit → Act → World → Prop} {a : Act} {w : World} {l : List Oper} (n : Nat) (hm : P.follows .mixedOrders = true) (hB : Region.lexTailB .any l.toArray n = true)
    (h : wpQuiet P l.toArray (fun w' => ∃ X : Later w, w' = X.w) (fun a' => ∀ w', (∃ X : Later w, w' = X.w) → wpList P l.toArray Q (l.drop n) a' w') (l.take n) a) : (Code.region id l.toArray true).wp P Q a w :=
  wp_region_head n hm hB ⟨⟨{ w with drawn := w.drawn + 1 }, ⟨rfl, rfl, rfl, Nat.le_refl _, fun _ _ => rfl⟩⟩, rfl⟩ h
/-- The class 'w after some draws'. -/
theorem wp_region_head_drew {id : Nat} {Q : Exit → Act → World → Prop} {a : Act} {w : World} {l : List Oper} (n : Nat) (hm : P.follows .mixedOrders = true) (hB : Region.lexTailB .any l.toArray n = true)
    (h : wpQuiet P l.toArray (fun w' => ∃ n, w' = w.drewN n) (fun a' => ∀ w', (∃ n, w' = w.drewN n) → wpList P l.toArray Q (l.drop n) a' w') (l.take n) a) : (Code.region id l.toArray true).wp P Q a w :=
  wp_region_head n hm hB ⟨1, rfl⟩ h
/-- All operations quiet. -/
theorem wp_region_later {id : Nat} {Q : Exit → Act → World → Prop} {a : Act} {w : World} {l : List Oper} (hm : P.follows .mixedOrders = true) (hB : Region.lexB .any l.toArray = true)
    (h : wpQuiet P l.toArray (fun w' => ∃ X : Later w, w' = X.w) (fun a' => ∀ w', (∃ X : Later w, w' = X.w) → Q .normal a' w') l a) : (Code.region id l.toArray true).wp P Q a w :=
  wp_region_quiet (C := fun w' => ∃ X : Later w, w' = X.w) hm hB ⟨⟨{ w with drawn := w.drawn + 1 }, ⟨rfl, rfl, rfl, Nat.le_refl _, fun _ _ => rfl⟩⟩, rfl⟩ (by simpa using h)
theorem Later.cell {W : World} (X : Later W) (b o : Nat) (h : b < W.heap.size) : X.w.cell? ⟨b, o, none⟩ = W.cell? ⟨b, o, none⟩ := X.h.cell (p := ⟨b, o, none⟩) h
theorem Later.frozen {W : World} (X : Later W) (b o : Nat) (h : b < W.heap.size) : X.w.frozen? ⟨b, o, none⟩ = W.frozen? ⟨b, o, none⟩ := X.h.frozen (p := ⟨b, o, none⟩) h
attribute [go_sem] Later.cell Later.frozen
/-- A contract of a callee that only grows the world, at a call in such a region. -/
theorem Calls.later {P : Program} {f : FuncId} {args : Array Value} {W : World} {X : Later W} {v : Value} (h : Calls P f args X.w fun e w' => e = .returned v ∧ Below X.w.heap.size X.w w') :
    Calls P f args X.w fun e w'' => e = .returned v ∧ ∃ Y : Later W, w'' = Y.w :=
  h.mono fun _ w' ⟨he, hb⟩ => ⟨he, ⟨w', X.h.trans (hb.mono X.h.size)⟩, rfl⟩
/-- .. of one that leaves the world as it is. -/
theorem Calls.later_same {P : Program} {f : FuncId} {args : Array Value} {W : World} {X : Later W} {v : Value} (h : Calls P f args X.w fun e w' => e = .returned v ∧ X.w = w') :
    Calls P f args X.w fun e w'' => e = .returned v ∧ ∃ Y : Later W, w'' = Y.w :=
  h.mono fun _ _ ⟨he, hb⟩ => ⟨he, X, hb.symm⟩
end
end Go

/- A region that draws its order, with one operation among its first ones that makes a new row of cells: what the others yield does not hang on when it comes. -/
namespace Go
open Go.RowKit
/-- A world behind Y, which lies behind W. -/
structure Later2 {W : World} (Y : Later W) where
  w : World
  h : Below Y.w.heap.size Y.w w
instance {W : World} (Y : Later W) : Nonempty (Later2 Y) := ⟨⟨Y.w, Below.refl _ _⟩⟩
theorem Later2.below {W : World} {Y : Later W} (X : Later2 Y) : Below W.heap.size W X.w := Y.h.trans (X.h.mono Y.h.size)
theorem Later2.cell {W : World} {Y : Later W} (X : Later2 Y) (b o : Nat) (h : b < W.heap.size) : X.w.cell? ⟨b, o, none⟩ = W.cell? ⟨b, o, none⟩ := X.below.cell (p := ⟨b, o, none⟩) h
theorem Later2.frozen {W : World} {Y : Later W} (X : Later2 Y) (b o : Nat) (h : b < W.heap.size) : X.w.frozen? ⟨b, o, none⟩ = W.frozen? ⟨b, o, none⟩ := X.below.frozen (p := ⟨b, o, none⟩) h
attribute [go_sem] Later2.cell Later2.frozen
section
variable {P : Program} {ops : Array Oper} {C : World → Prop}
theorem put_get (a : Act) (d : Option Tmp) (v : Value) (t : Nat) : (a.put d v).tmps[t]? = if d = some t then a.tmps[t]?.map (fun _ => v) else a.tmps[t]? := by
  cases d with
  | none => simp [Act.put]
  | some d =>
    simp only [Act.put, Array.getElem?_setIfInBounds, Option.some.injEq]
    by_cases h : d = t
    · subst h
      by_cases h2 : d < a.tmps.size
      · simp [h2]
      · simp [h2]
    · simp [h]
theorem put_size (a : Act) (d : Option Tmp) (v : Value) : (a.put d v).tmps.size = a.tmps.size := by cases d <;> simp [Act.put]
theorem put_defers (a : Act) (d : Option Tmp) (v : Value) : (a.put d v).defers = a.defers := by cases d <;> rfl
theorem seen_alike {o : Oper} {a a' : Act} (hs : ∀ cs b, o.op ≠ .select cs b) (h : ∀ t ∈ o.looksAt ops, a.tmps[t]? = a'.tmps[t]?) :
    execOp a.eval o = execOp a'.eval o ∧ Region.wanted o (yielded ops a.tmps) = Region.wanted o (yielded ops a'.tmps) := by
  constructor
  · refine execOp_congr o hs fun x hx => ?_
    cases x with
    | tmp t =>
      have := h t (List.mem_append_left _ (List.mem_filterMap.2 ⟨.tmp t, by simpa using hx, rfl⟩))
      simp [Act.eval, Array.getD_eq_getD_getElem?, this]
    | const v => rfl
    | global g => rfl
    | func f => rfl
  · unfold Region.wanted
    cases hg : o.guard with
    | none => rfl
    | some gw =>
      obtain ⟨g, want⟩ := gw
      have : yielded ops a.tmps g = yielded ops a'.tmps g := by
        unfold yielded
        cases ht : (ops[g]?).bind (·.dst) with
        | none => rfl
        | some t =>
          have : a.tmps[t]? = a'.tmps[t]? := h t (by
            unfold Oper.looksAt
            simp [hg, ht])
          simp [this]
      simp [this]
/-- What the walk in the order of the text tells of each operation. -/
theorem quiet_text {A : Act} : ∀ (L : List Oper) (a : Act), wpQuiet P ops C (fun a' => a' = A) L a → L.Pairwise (fun o o' => ∀ t, o.dst = some t → o'.dst ≠ some t) →
    (∀ t, (∀ o ∈ L, o.dst ≠ some t) → A.tmps[t]? = a.tmps[t]?) ∧ A.tmps.size = a.tmps.size ∧ A.defers = a.defers ∧
    ∀ pre o post, L = pre ++ o :: post → ∃ ai v, YieldsIn P ops C o v ai ∧ (∀ t, (∃ p ∈ pre, p.dst = some t) → ai.tmps[t]? = A.tmps[t]?) ∧
      (∀ t, (∀ p ∈ pre, p.dst ≠ some t) → ai.tmps[t]? = a.tmps[t]?) ∧ (∀ t, o.dst = some t → A.tmps[t]? = a.tmps[t]?.map (fun _ => v)) := by
  intro L
  induction L with
  | nil =>
    intro a h _
    have h : a = A := h
    subst h
    exact ⟨fun _ _ => rfl, rfl, rfl, fun pre o post hl => by simp at hl⟩
  | cons o rest ih =>
    intro a h hp
    obtain ⟨hp1, hp2⟩ := List.pairwise_cons.1 hp
    have hv : ∃ v, YieldsIn P ops C o v a ∧ wpQuiet P ops C (fun a' => a' = A) rest (a.put o.dst v) := by
      unfold wpQuiet at h
      by_cases hw : Region.wanted o (yielded ops a.tmps) = true
      · rw [if_pos hw] at h
        obtain ⟨v, h1, h2⟩ := h
        exact ⟨v, .inl ⟨hw, h1⟩, h2⟩
      · rw [if_neg hw] at h
        exact ⟨undef, .inr ⟨by simpa using hw, rfl⟩, h⟩
    obtain ⟨v, hy, h2⟩ := hv
    obtain ⟨i1, i2, i3, i4⟩ := ih _ h2 hp2
    have hA : ∀ t, o.dst = some t → A.tmps[t]? = a.tmps[t]?.map (fun _ => v) := fun t ht => by
      rw [i1 t (fun o' ho' => hp1 o' ho' t ht), put_get, if_pos ht]
    refine ⟨fun t ht => ?_, by rw [i2, put_size], by rw [i3, put_defers], ?_⟩
    · rw [i1 t (fun o' ho' => ht o' (List.mem_cons_of_mem _ ho')), put_get, if_neg (ht o (by simp))]
    · intro pre o' post hl
      cases pre with
      | nil =>
        simp only [List.nil_append, List.cons.injEq] at hl
        obtain ⟨rfl, rfl⟩ := hl
        exact ⟨a, v, hy, fun t ⟨p, hp, _⟩ => by simp at hp, fun _ _ => rfl, hA⟩
      | cons o'' pre =>
        simp only [List.cons_append, List.cons.injEq] at hl
        obtain ⟨rfl, rfl⟩ := hl
        obtain ⟨ai, v', hy', j1, j2, j3⟩ := i4 pre o' post rfl
        refine ⟨ai, v', hy', fun t ⟨p, hpm, hpt⟩ => ?_, fun t ht => ?_, fun t ht => ?_⟩
        · rcases List.mem_cons.1 hpm with rfl | hpm
          · rw [j2 t (fun q hq => hp1 q (by simp [hq]) t hpt), put_get, if_pos hpt, hA t hpt]
          · exact j1 t ⟨p, hpm, hpt⟩
        · rw [j2 t (fun q hq => ht q (by simp [hq])), put_get, if_neg (ht o (by simp))]
        · have hne : o.dst ≠ some t := fun h => hp1 o' (by simp) t h ht
          rw [j3 t ht, put_get, if_neg hne]
/-- Head operations i, j: they leave their yields in different temporaries, and i looks at j's only if it waits for j. -/
def Region.flowPair (ops : Array Oper) (i j : Nat) : Bool :=
  match ops[i]?, ops[j]? with
  | some oi, some oj =>
    (match oi.dst with | some d => (i == j || oj.dst != some d) && (i != j || !(oi.looksAt ops).contains d) | none => true) &&
    (match oj.dst with | some d => i == j || !(oi.looksAt ops).contains d || (decide (j < i) && Region.waitsFor .any ops i j) | none => true)
  | _, _ => true
theorem Region.flowPair_dst {i j : Nat} {oi oj : Oper} (h : Region.flowPair ops i j = true) (hi : ops[i]? = some oi) (hj : ops[j]? = some oj) (hne : i ≠ j) {d : Tmp} (hd : oi.dst = some d) : oj.dst ≠ some d := by
  intro hd'
  unfold Region.flowPair at h
  simp [hi, hj, hd, hd', hne] at h
theorem Region.flowPair_self {i : Nat} {oi : Oper} (h : Region.flowPair ops i i = true) (hi : ops[i]? = some oi) {d : Tmp} (hd : oi.dst = some d) : d ∉ oi.looksAt ops := by
  intro hm
  unfold Region.flowPair at h
  simp [hi, hd] at h
  exact h hm
theorem Region.flowPair_looks {i j : Nat} {oi oj : Oper} (h : Region.flowPair ops i j = true) (hi : ops[i]? = some oi) (hj : ops[j]? = some oj) (hne : i ≠ j) {d : Tmp} (hd : oj.dst = some d) (hl : d ∈ oi.looksAt ops) :
    j < i ∧ Region.waitsFor .any ops i j = true := by
  unfold Region.flowPair at h
  simp only [hi, hj, hd, Bool.and_eq_true] at h
  have h2 := h.2
  simp [hne, hl] at h2
  exact h2
/-- Operation i does not look at b's yield. -/
def Region.blindTo (ops : Array Oper) (i b : Nat) : Bool :=
  match ops[i]?, ops[b]? with
  | some o, some ob => (match ob.dst with | some d => !(o.looksAt ops).contains d | none => true)
  | _, _ => true
theorem Region.blindTo_spec {i b : Nat} {o ob : Oper} (h : Region.blindTo ops i b = true) (hi : ops[i]? = some o) (hb : ops[b]? = some ob) {d : Tmp} (hd : ob.dst = some d) : d ∉ o.looksAt ops := by
  intro hm
  unfold Region.blindTo at h
  simp [hi, hb, hd] at h
  exact h hm
/-- The first n marked. -/
def Region.marked (size n : Nat) : Array Bool := ((List.range size).map fun i => decide (i < n)).toArray
def Region.flowB (ops : Array Oper) (n b : Nat) : Bool :=
  Region.noSelect ops && decide (n < ops.size) && decide (b < n) && Region.sinkB .any ops n && Region.chainB .any ops n && Region.seqB .any ops (ops.size - n) n (Region.marked ops.size n) &&
  ((List.range n).all fun i => match ops[i]? with | some o => o.after.all fun e => !Region.binds .any e || decide (e.on < i) | none => true) &&
  ((List.range n).all fun i => (List.range n).all fun j => Region.flowPair ops i j) &&
  (match ops[b]? with | some o => o.guard.isNone | none => false) &&
  ((List.range n).all fun i => i == b || Region.blindTo ops i b)
/-- The head without operation b. -/
def headsOf (l : List Oper) (n b : Nat) : List Oper := l.take b ++ (l.drop (b + 1)).take (n - b - 1)
def posOf (b i : Nat) : Nat := if i < b then i else i - 1
theorem headsOf_get {l : List Oper} {n b : Nat} (hb : b < n) (hn : n ≤ l.length) {i : Nat} (hi : i < n) (hne : i ≠ b) : (headsOf l n b)[posOf b i]? = l[i]? := by
  unfold headsOf posOf
  by_cases h : i < b
  · rw [if_pos h, List.getElem?_append_left (by simp; omega), List.getElem?_take, if_pos h]
  · rw [if_neg h, List.getElem?_append_right (by simp; omega), List.length_take, List.getElem?_take, if_pos (by omega), List.getElem?_drop]
    congr 1; omega
theorem headsOf_length {l : List Oper} {n b : Nat} (hb : b < n) (hn : n ≤ l.length) : (headsOf l n b).length = n - 1 := by
  unfold headsOf; simp; omega
theorem headsOf_from {l : List Oper} {n b : Nat} (hb : b < n) (hn : n ≤ l.length) {q : Nat} {o : Oper} (h : (headsOf l n b)[q]? = some o) : ∃ j, j < n ∧ j ≠ b ∧ l[j]? = some o ∧ posOf b j = q := by
  have hq : q < n - 1 := by have := (List.getElem?_eq_some_iff.1 h).1; rwa [headsOf_length hb hn] at this
  by_cases hqb : q < b
  · have e : posOf b q = q := by unfold posOf; rw [if_pos hqb]
    exact ⟨q, by omega, by omega, by rw [← headsOf_get hb hn (by omega) (by omega), e, h], e⟩
  · have e : posOf b (q + 1) = q := by unfold posOf; rw [if_neg (by omega)]; omega
    exact ⟨q + 1, by omega, by omega, by rw [← headsOf_get hb hn (by omega) (by omega), e, h], e⟩
theorem exists_leastM : ∀ (U : List Nat), U ≠ [] → ∃ i ∈ U, ∀ j ∈ U, i ≤ j
  | [], h => absurd rfl h
  | [x], _ => ⟨x, by simp, by simp⟩
  | x :: y :: U, _ => by
    obtain ⟨i, hi, hm⟩ := exists_leastM (y :: U) (by simp)
    by_cases h : x ≤ i
    · exact ⟨x, by simp, fun j hj => by rcases List.mem_cons.1 hj with rfl | hj; exact Nat.le_refl _; exact Nat.le_trans h (hm j hj)⟩
    · exact ⟨i, List.mem_cons_of_mem _ hi, fun j hj => by rcases List.mem_cons.1 hj with rfl | hj; omega; exact hm j hj⟩
end
section
variable {P : Program} {l : List Oper} {n b : Nat} {ob : Oper} {W : World} {a0 A : Act} {bv : Nat → Value} {B : Nat → World → Prop} {Q : Exit → Act → World → Prop}
end
end Go

