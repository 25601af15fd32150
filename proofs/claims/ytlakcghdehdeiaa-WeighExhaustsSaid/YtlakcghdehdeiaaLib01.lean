/- Lemmas on the way to the laws (part 1): A R B O P Q C D E F -/
import Derived.BigQuiet
import Derived.StillTail
import Derived.WalkKit
import Derived.WalkSpells
import Derived.WalkLawsBesides
import Derived.Lib.Hide
import Derived.Test.YtlakcghdehdeiaaProg
import Derived.Maps.Own
import Derived.Maps.OwnOps
import Derived.Maps.OwnSet
import Derived.Maps.Views
import Derived.StillTailTactics
set_option linter.unusedVariables false
set_option linter.unusedSimpArgs false

/- A region whose first operations leave old memory alone, and whose last ones run in a fixed order: one walk in the order of the text serves every order that may be drawn. Worlds that only grew are one class. -/
namespace Go
open Go.RowKit

/-- A world behind W in which all that lay in W lies as it lay. -/
structure Later (W : World) where
  w : World
  h : Below W.heap.size W w
instance (W : World) : Nonempty (Later W) := ⟨⟨W, Below.refl _ _⟩⟩

section
variable {P : Program} {ops : Array Oper} {md : Region.Mode} {C : World → Prop}

/-- Head operations (numbers below n) in whatever order, each quiet in the class; then L. -/
def headQ (P : Program) (md : Region.Mode) (ops : Array Oper) (C : World → Prop) (n : Nat) (L : Array Bool → Act → Prop) : Nat → Array Bool → Act → Prop
  | 0, listed, a => L listed a
  | f + 1, listed, a => Region.ready md ops listed ≠ [] ∧ ∀ i ∈ Region.ready md ops listed, i < n ∧ qOp P ops C i (headQ P md ops C n L f (listed.setIfInBounds i true)) a

theorem wpAny_of_headQ {n g : Nat} {L : Array Bool → Act → Prop} {Q' : Exit → Act → World → Prop} (hL : ∀ listed a w, C w → L listed a → wpAny P md ops Q' g listed a w) :
    ∀ (f : Nat) (listed : Array Bool) (a : Act) (w : World), C w → headQ P md ops C n L f listed a → wpAny P md ops Q' (f + g) listed a w
  | 0, listed, a, w, hw, h => by rw [Nat.zero_add]; exact hL _ _ _ hw h
  | f + 1, listed, a, w, hw, h => by
    rw [show f + 1 + g = (f + g) + 1 by omega]
    exact ⟨fun h0 => absurd h0 h.1, fun i hi => wpOp_of_qOp hw (fun a' w' hw' h' => wpAny_of_headQ hL f _ a' w' hw' h') (h.2 i hi).2⟩

theorem headQ_first {n i : Nat} {oi : Oper} {v : Value} {L : Array Bool → Act → Prop} (hi : ops[i]? = some oi) (hsel : ∀ (j : Nat) (o : Oper) cs b, ops[j]? = some o → o.op ≠ .select cs b)
    (hs : Region.sinkB md ops n = true) (hc : Region.chainB md ops n = true) (hn : n < ops.size) (hin : i < n)
    (hdone : ∀ listed a, L listed a → ∀ j ∈ Region.ready md ops listed, n ≤ j) (f : Nat) :
    ∀ (listed : Array Bool) (a : Act), HeadInv md ops n listed →
      (∀ j oj, ops[j]? = some oj → j ≠ i → listed.getD j true = false → (∀ e ∈ oj.after, Region.binds md e = true → e.on ≠ i) → oi.apart ops oj = true) →
      i ∈ Region.ready md ops listed → YieldsIn P ops C oi v a →
      headQ P md ops C n L f (listed.setIfInBounds i true) (a.put oi.dst v) → headQ P md ops C n L (f + 1) listed a := by
  induction f with
  | zero =>
    intro listed a inv _ hr hy H
    have hun := (mem_ready.1 hr).1
    refine ⟨fun h => (by rw [h] at hr; cases hr), fun j hj => ?_⟩
    have hjn : j < n := Nat.lt_of_not_le fun h => tail_waits hs hc hn inv _ i rfl hin hun j h hj
    by_cases hji : j = i
    · subst hji; exact ⟨hjn, hy.qOp hi H⟩
    · exact absurd (hdone _ _ H j (ready_mono hj hji)) (by omega)
  | succ f ih =>
    intro listed a inv hfree hr hy H
    have hun := (mem_ready.1 hr).1
    refine ⟨fun h => (by rw [h] at hr; cases hr), fun j hj => ?_⟩
    have hjn : j < n := Nat.lt_of_not_le fun h => tail_waits hs hc hn inv _ i rfl hin hun j h hj
    by_cases hji : j = i
    · subst hji; exact ⟨hjn, hy.qOp hi H⟩
    · have h1 := (H.2 j (ready_mono hj hji)).2
      obtain ⟨hjun, oj, hoj, hall⟩ := mem_ready.1 hj
      have hnot : ∀ e ∈ oj.after, Region.binds md e = true → e.on ≠ i := fun e he hb heq => by
        have h1 := hall e he hb
        rw [heq, getD_both hun] at h1
        cases h1
      have h2 := qOp_put hoj (hfree j oj hoj hji hjun hnot) (fun cs b => hsel i oi cs b hi) (fun cs b => hsel j oj cs b hoj) hy h1
      refine ⟨hjn, qOp_mono (fun a' h3 => ih (listed.setIfInBounds j true) a' (inv.set hj hjn) (fun k ok hk hki hk0 hno => hfree k ok hk hki ?_ hno) (ready_mono hr (Ne.symm hji)) h3.1 ?_) h2⟩
      · by_cases hjk : j = k
        · subst hjk; exact hjun
        · rw [getD_set_ne true hjk] at hk0; exact hk0
      · rw [Array.setIfInBounds_comm _ _ hji]; exact h3.2

theorem headQ_lex {n g : Nat} {Lq : Act → Prop} (hsel : Region.noSelect ops = true) (hs : Region.sinkB md ops n = true) (hc : Region.chainB md ops n = true) (hn : n < ops.size) :
    ∀ (l : List Oper) (k : Nat) (listed : Array Bool) (a : Act), (∀ j, j < l.length → l[j]? = ops[k + j]?) → k + l.length = n → HeadInv md ops n listed →
    Region.lexHead md ops g l.length k listed = true → wpQuiet P ops C Lq l a →
    headQ P md ops C n (fun listed' a' => Region.seqB md ops g n listed' = true ∧ Lq a') l.length listed a
  | [], k, listed, a, _, hk, _, hB, h => by
    obtain rfl : k = n := by simpa using hk
    exact ⟨by simpa [Region.lexHead] using hB, h⟩
  | o :: l, k, listed, a, hl, hk, inv, hB, h => by
    have h0 : ops[k]? = some o := by simpa using (hl 0 (by simp)).symm
    simp only [List.length_cons, Region.lexHead, Bool.and_eq_true] at hB
    obtain ⟨⟨hr, hf⟩, hB'⟩ := hB
    have hkn : k < n := by simp only [List.length_cons] at hk; omega
    have hr' : k ∈ Region.ready md ops listed := by simpa using hr
    have hst : qOp P ops C k (wpQuiet P ops C Lq l) a := by unfold qOp; simp only [h0]; exact h
    obtain ⟨v, hy, hK⟩ := yieldsIn_of_qOp h0 hst
    exact headQ_first h0 (Region.noSelect_spec hsel) hs hc hn hkn (fun listed' a' hL => seqB_ready hL.1) l.length listed a inv (Region.free_spec h0 hf) hr' hy
      (headQ_lex hsel hs hc hn l (k + 1) _ _ (fun j hj => by have := hl (j + 1) (by simp; omega); simpa [Nat.add_assoc, Nat.add_comm 1 j] using this) (by simp only [List.length_cons] at hk; omega) (inv.set hr' hkn) hB' hK)

/-- The first n operations quiet in the class, the others behind them in the order of the text. -/
theorem wp_region_head {id : Nat} {Q : Exit → Act → World → Prop} {a : Act} {w : World} {l : List Oper} (n : Nat) (hm : P.follows .mixedOrders = true) (hB : Region.lexTailB .any l.toArray n = true)
    (hC : C { w with drawn := w.drawn + 1 }) (h : wpQuiet P l.toArray C (fun a' => ∀ w', C w' → wpList P l.toArray Q (l.drop n) a' w') (l.take n) a) : (Code.region id l.toArray true).wp P Q a w := by
  simp only [Region.lexTailB, Bool.and_eq_true, decide_eq_true_eq] at hB
  obtain ⟨⟨⟨⟨hsel, hn⟩, hs⟩, hc⟩, hlex⟩ := hB
  have hn' : n < l.length := by simpa using hn
  have htl : (l.take n).length = n := by simp; omega
  have hdl : (l.drop n).length = l.toArray.size - n := by simp
  have inv0 : HeadInv .any l.toArray n (Array.replicate l.toArray.size false) :=
    ⟨by simp, fun j oj _ hl => (by rw [getD_replicate_false] at hl; cases hl), fun t _ ht => getD_in (by simpa using ht) (getD_replicate_false _ _)⟩
  have H := headQ_lex (C := C) (md := .any) (g := l.toArray.size - n) hsel hs hc hn (l.take n) 0 _ a (fun j hj => by
    have hj' : j < n := by rw [htl] at hj; exact hj
    simp [hj']) (by simpa using htl) inv0 (by rw [htl]; exact hlex) h
  refine wp_region_any hm ?_
  have := wpAny_of_headQ (Q' := Q) (g := l.toArray.size - n) (fun listed a' w' hw' hL => by
    have := wpAny_of_seq (md := .any) (Q' := Q) (l.drop n) n listed a' w' (fun j => by simp [List.getElem?_drop]) (by rw [hdl]; exact hL.1) (hL.2 w' hw')
    rwa [hdl] at this) _ _ _ _ hC H
  rw [htl, show n + (l.toArray.size - n) = l.toArray.size by omega] at this
  exact this

/-- The class 'W has only grown'. -/
theorem wp_region_head_later {id : Nat} {Q : Exit → Act → World → Prop} {a : Act} {w : World} {l : List Oper} (n : Nat) (hm : P.follows .mixedOrders = true) (hB : Region.lexTailB .any l.toArray n = true)
    (h : wpQuiet P l.toArray (fun w' => ∃ X : Later w, w' = X.w) (fun a' => ∀ w', (∃ X : Later w, w' = X.w) → wpList P l.toArray Q (l.drop n) a' w') (l.take n) a) : (Code.region id l.toArray true).wp P Q a w :=
  wp_region_head n hm hB ⟨⟨{ w with drawn := w.drawn + 1 }, ⟨rfl, rfl, rfl, Nat.le_refl _, fun _ _ => rfl⟩⟩, rfl⟩ h

/-- The class 'w after some draws'. -/
theorem wp_region_head_drew {id : Nat} {Q : Exit → Act → World → Prop} {a : Act} {w : World} {l : List Oper} (n : Nat) (hm : P.follows .mixedOrders = true) (hB : Region.lexTailB .any l.toArray n = true)
    (h : wpQuiet P l.toArray (fun w' => ∃ n, w' = w.drewN n) (fun a' => ∀ w', (∃ n, w' = w.drewN n) → wpList P l.toArray Q (l.drop n) a' w') (l.take n) a) : (Code.region id l.toArray true).wp P Q a w :=
  wp_region_head n hm hB ⟨1, rfl⟩ h

/-- All operations quiet. -/
theorem wp_region_later {id : Nat} {Q : Exit → Act → World → Prop} {a : Act} {w : World} {l : List Oper} (hm : P.follows .mixedOrders = true) (hB : Region.lexB .any l.toArray = true)
    (h : wpQuiet P l.toArray (fun w' => ∃ X : Later w, w' = X.w) (fun a' => ∀ w', (∃ X : Later w, w' = X.w) → Q .normal a' w') l a) : (Code.region id l.toArray true).wp P Q a w :=
  wp_region_quiet (C := fun w' => ∃ X : Later w, w' = X.w) hm hB ⟨⟨{ w with drawn := w.drawn + 1 }, ⟨rfl, rfl, rfl, Nat.le_refl _, fun _ _ => rfl⟩⟩, rfl⟩ (by simpa using h)

theorem Later.cell {W : World} (X : Later W) (b o : Nat) (h : b < W.heap.size) : X.w.cell? ⟨b, o, none⟩ = W.cell? ⟨b, o, none⟩ := X.h.cell (p := ⟨b, o, none⟩) h
theorem Later.frozen {W : World} (X : Later W) (b o : Nat) (h : b < W.heap.size) : X.w.frozen? ⟨b, o, none⟩ = W.frozen? ⟨b, o, none⟩ := X.h.frozen (p := ⟨b, o, none⟩) h

attribute [go_sem] Later.cell Later.frozen

/-- A contract of a callee that only grows the world, at a call in such a region. -/
theorem Calls.later {P : Program} {f : FuncId} {args : Array Value} {W : World} {X : Later W} {v : Value} (h : Calls P f args X.w fun e w' => e = .returned v ∧ Below X.w.heap.size X.w w') :
    Calls P f args X.w fun e w'' => e = .returned v ∧ ∃ Y : Later W, w'' = Y.w :=
  h.mono fun _ w' ⟨he, hb⟩ => ⟨he, ⟨w', X.h.trans (hb.mono X.h.size)⟩, rfl⟩
/-- .. of one that leaves the world as it is. -/
theorem Calls.later_same {P : Program} {f : FuncId} {args : Array Value} {W : World} {X : Later W} {v : Value} (h : Calls P f args X.w fun e w' => e = .returned v ∧ X.w = w') :
    Calls P f args X.w fun e w'' => e = .returned v ∧ ∃ Y : Later W, w'' = Y.w :=
  h.mono fun _ _ ⟨he, hb⟩ => ⟨he, X, hb.symm⟩
end
end Go

/- A region that draws its order, with one operation among its first ones that makes a new row of cells: what the others yield does not hang on when it comes. -/
namespace Go
open Go.RowKit

/-- A world behind Y, which lies behind W. -/
structure Later2 {W : World} (Y : Later W) where
  w : World
  h : Below Y.w.heap.size Y.w w
instance {W : World} (Y : Later W) : Nonempty (Later2 Y) := ⟨⟨Y.w, Below.refl _ _⟩⟩
theorem Later2.below {W : World} {Y : Later W} (X : Later2 Y) : Below W.heap.size W X.w := Y.h.trans (X.h.mono Y.h.size)
theorem Later2.cell {W : World} {Y : Later W} (X : Later2 Y) (b o : Nat) (h : b < W.heap.size) : X.w.cell? ⟨b, o, none⟩ = W.cell? ⟨b, o, none⟩ := X.below.cell (p := ⟨b, o, none⟩) h
theorem Later2.frozen {W : World} {Y : Later W} (X : Later2 Y) (b o : Nat) (h : b < W.heap.size) : X.w.frozen? ⟨b, o, none⟩ = W.frozen? ⟨b, o, none⟩ := X.below.frozen (p := ⟨b, o, none⟩) h
attribute [go_sem] Later2.cell Later2.frozen
theorem Calls.later2 {P : Program} {f : FuncId} {args : Array Value} {W : World} {Y : Later W} {X : Later2 Y} {v : Value} (h : Calls P f args X.w fun e w' => e = .returned v ∧ Below X.w.heap.size X.w w') :
    Calls P f args X.w fun e w'' => e = .returned v ∧ ∃ Z : Later2 Y, w'' = Z.w :=
  h.mono fun _ w' ⟨he, hb⟩ => ⟨he, ⟨w', X.h.trans (hb.mono X.h.size)⟩, rfl⟩
theorem Calls.later2_same {P : Program} {f : FuncId} {args : Array Value} {W : World} {Y : Later W} {X : Later2 Y} {v : Value} (h : Calls P f args X.w fun e w' => e = .returned v ∧ X.w = w') :
    Calls P f args X.w fun e w'' => e = .returned v ∧ ∃ Z : Later2 Y, w'' = Z.w :=
  h.mono fun _ _ ⟨he, hb⟩ => ⟨he, X, hb.symm⟩

section
variable {P : Program} {ops : Array Oper} {C : World → Prop}

theorem put_get (a : Act) (d : Option Tmp) (v : Value) (t : Nat) : (a.put d v).tmps[t]? = if d = some t then a.tmps[t]?.map (fun _ => v) else a.tmps[t]? := by
  cases d with
  | none => simp [Act.put]
  | some d =>
    simp only [Act.put, Array.getElem?_setIfInBounds, Option.some.injEq]
    by_cases h : d = t
    · subst h
      by_cases h2 : d < a.tmps.size
      · simp [h2]
      · simp [h2]
    · simp [h]
theorem put_size (a : Act) (d : Option Tmp) (v : Value) : (a.put d v).tmps.size = a.tmps.size := by cases d <;> simp [Act.put]
theorem put_defers (a : Act) (d : Option Tmp) (v : Value) : (a.put d v).defers = a.defers := by cases d <;> rfl

theorem seen_alike {o : Oper} {a a' : Act} (hs : ∀ cs b, o.op ≠ .select cs b) (h : ∀ t ∈ o.looksAt ops, a.tmps[t]? = a'.tmps[t]?) :
    execOp a.eval o = execOp a'.eval o ∧ Region.wanted o (yielded ops a.tmps) = Region.wanted o (yielded ops a'.tmps) := by
  constructor
  · refine execOp_congr o hs fun x hx => ?_
    cases x with
    | tmp t =>
      have := h t (List.mem_append_left _ (List.mem_filterMap.2 ⟨.tmp t, by simpa using hx, rfl⟩))
      simp [Act.eval, Array.getD_eq_getD_getElem?, this]
    | const v => rfl
    | global g => rfl
    | func f => rfl
  · unfold Region.wanted
    cases hg : o.guard with
    | none => rfl
    | some gw =>
      obtain ⟨g, want⟩ := gw
      have : yielded ops a.tmps g = yielded ops a'.tmps g := by
        unfold yielded
        cases ht : (ops[g]?).bind (·.dst) with
        | none => rfl
        | some t =>
          have : a.tmps[t]? = a'.tmps[t]? := h t (by
            unfold Oper.looksAt
            simp [hg, ht])
          simp [this]
      simp [this]

/-- What the walk in the order of the text tells of each operation. -/
theorem quiet_text {A : Act} : ∀ (L : List Oper) (a : Act), wpQuiet P ops C (fun a' => a' = A) L a → L.Pairwise (fun o o' => ∀ t, o.dst = some t → o'.dst ≠ some t) →
    (∀ t, (∀ o ∈ L, o.dst ≠ some t) → A.tmps[t]? = a.tmps[t]?) ∧ A.tmps.size = a.tmps.size ∧ A.defers = a.defers ∧
    ∀ pre o post, L = pre ++ o :: post → ∃ ai v, YieldsIn P ops C o v ai ∧ (∀ t, (∃ p ∈ pre, p.dst = some t) → ai.tmps[t]? = A.tmps[t]?) ∧
      (∀ t, (∀ p ∈ pre, p.dst ≠ some t) → ai.tmps[t]? = a.tmps[t]?) ∧ (∀ t, o.dst = some t → A.tmps[t]? = a.tmps[t]?.map (fun _ => v)) := by
  intro L
  induction L with
  | nil =>
    intro a h _
    have h : a = A := h
    subst h
    exact ⟨fun _ _ => rfl, rfl, rfl, fun pre o post hl => by simp at hl⟩
  | cons o rest ih =>
    intro a h hp
    obtain ⟨hp1, hp2⟩ := List.pairwise_cons.1 hp
    have hv : ∃ v, YieldsIn P ops C o v a ∧ wpQuiet P ops C (fun a' => a' = A) rest (a.put o.dst v) := by
      unfold wpQuiet at h
      by_cases hw : Region.wanted o (yielded ops a.tmps) = true
      · rw [if_pos hw] at h
        obtain ⟨v, h1, h2⟩ := h
        exact ⟨v, .inl ⟨hw, h1⟩, h2⟩
      · rw [if_neg hw] at h
        exact ⟨undef, .inr ⟨by simpa using hw, rfl⟩, h⟩
    obtain ⟨v, hy, h2⟩ := hv
    obtain ⟨i1, i2, i3, i4⟩ := ih _ h2 hp2
    have hA : ∀ t, o.dst = some t → A.tmps[t]? = a.tmps[t]?.map (fun _ => v) := fun t ht => by
      rw [i1 t (fun o' ho' => hp1 o' ho' t ht), put_get, if_pos ht]
    refine ⟨fun t ht => ?_, by rw [i2, put_size], by rw [i3, put_defers], ?_⟩
    · rw [i1 t (fun o' ho' => ht o' (List.mem_cons_of_mem _ ho')), put_get, if_neg (ht o (by simp))]
    · intro pre o' post hl
      cases pre with
      | nil =>
        simp only [List.nil_append, List.cons.injEq] at hl
        obtain ⟨rfl, rfl⟩ := hl
        exact ⟨a, v, hy, fun t ⟨p, hp, _⟩ => by simp at hp, fun _ _ => rfl, hA⟩
      | cons o'' pre =>
        simp only [List.cons_append, List.cons.injEq] at hl
        obtain ⟨rfl, rfl⟩ := hl
        obtain ⟨ai, v', hy', j1, j2, j3⟩ := i4 pre o' post rfl
        refine ⟨ai, v', hy', fun t ⟨p, hpm, hpt⟩ => ?_, fun t ht => ?_, fun t ht => ?_⟩
        · rcases List.mem_cons.1 hpm with rfl | hpm
          · rw [j2 t (fun q hq => hp1 q (by simp [hq]) t hpt), put_get, if_pos hpt, hA t hpt]
          · exact j1 t ⟨p, hpm, hpt⟩
        · rw [j2 t (fun q hq => ht q (by simp [hq])), put_get, if_neg (ht o (by simp))]
        · have hne : o.dst ≠ some t := fun h => hp1 o' (by simp) t h ht
          rw [j3 t ht, put_get, if_neg hne]

/-- Head operations i, j: they leave their yields in different temporaries, and i looks at j's only if it waits for j. -/
def Region.flowPair (ops : Array Oper) (i j : Nat) : Bool :=
  match ops[i]?, ops[j]? with
  | some oi, some oj =>
    (match oi.dst with | some d => (i == j || oj.dst != some d) && (i != j || !(oi.looksAt ops).contains d) | none => true) &&
    (match oj.dst with | some d => i == j || !(oi.looksAt ops).contains d || (decide (j < i) && Region.waitsFor .any ops i j) | none => true)
  | _, _ => true
theorem Region.flowPair_dst {i j : Nat} {oi oj : Oper} (h : Region.flowPair ops i j = true) (hi : ops[i]? = some oi) (hj : ops[j]? = some oj) (hne : i ≠ j) {d : Tmp} (hd : oi.dst = some d) : oj.dst ≠ some d := by
  intro hd'
  unfold Region.flowPair at h
  simp [hi, hj, hd, hd', hne] at h
theorem Region.flowPair_self {i : Nat} {oi : Oper} (h : Region.flowPair ops i i = true) (hi : ops[i]? = some oi) {d : Tmp} (hd : oi.dst = some d) : d ∉ oi.looksAt ops := by
  intro hm
  unfold Region.flowPair at h
  simp [hi, hd] at h
  exact h hm
theorem Region.flowPair_looks {i j : Nat} {oi oj : Oper} (h : Region.flowPair ops i j = true) (hi : ops[i]? = some oi) (hj : ops[j]? = some oj) (hne : i ≠ j) {d : Tmp} (hd : oj.dst = some d) (hl : d ∈ oi.looksAt ops) :
    j < i ∧ Region.waitsFor .any ops i j = true := by
  unfold Region.flowPair at h
  simp only [hi, hj, hd, Bool.and_eq_true] at h
  have h2 := h.2
  simp [hne, hl] at h2
  exact h2
/-- Operation i does not look at b's yield. -/
def Region.blindTo (ops : Array Oper) (i b : Nat) : Bool :=
  match ops[i]?, ops[b]? with
  | some o, some ob => (match ob.dst with | some d => !(o.looksAt ops).contains d | none => true)
  | _, _ => true
theorem Region.blindTo_spec {i b : Nat} {o ob : Oper} (h : Region.blindTo ops i b = true) (hi : ops[i]? = some o) (hb : ops[b]? = some ob) {d : Tmp} (hd : ob.dst = some d) : d ∉ o.looksAt ops := by
  intro hm
  unfold Region.blindTo at h
  simp [hi, hb, hd] at h
  exact h hm
/-- The first n marked. -/
def Region.marked (size n : Nat) : Array Bool := ((List.range size).map fun i => decide (i < n)).toArray
def Region.flowB (ops : Array Oper) (n b : Nat) : Bool :=
  Region.noSelect ops && decide (n < ops.size) && decide (b < n) && Region.sinkB .any ops n && Region.chainB .any ops n && Region.seqB .any ops (ops.size - n) n (Region.marked ops.size n) &&
  ((List.range n).all fun i => match ops[i]? with | some o => o.after.all fun e => !Region.binds .any e || decide (e.on < i) | none => true) &&
  ((List.range n).all fun i => (List.range n).all fun j => Region.flowPair ops i j) &&
  (match ops[b]? with | some o => o.guard.isNone | none => false) &&
  ((List.range n).all fun i => i == b || Region.blindTo ops i b)

/-- The state while head operations come up in whatever order. -/
structure Flow (ops : Array Oper) (n b : Nat) (ob : Oper) (W : World) (a0 A : Act) (bv : Nat → Value) (B : Nat → World → Prop) (listed : Array Bool) (a : Act) (w : World) (g : Nat) : Prop where
  inv : HeadInv .any ops n listed
  later : Below W.heap.size W w
  size : a.tmps.size = a0.tmps.size
  defers : a.defers = a0.defers
  slot : ∀ j o t, j < n → ops[j]? = some o → o.dst = some t → j ≠ b → a.tmps[t]? = if listed.getD j false = true then A.tmps[t]? else a0.tmps[t]?
  slotb : ∀ t, ob.dst = some t → a.tmps[t]? = if listed.getD b false = true then a0.tmps[t]?.map (fun _ => bv g) else a0.tmps[t]?
  other : ∀ t, (∀ j o, j < n → ops[j]? = some o → o.dst ≠ some t) → a.tmps[t]? = a0.tmps[t]?
  box : listed.getD b false = true → B g w

/-- The head without operation b. -/
def headsOf (l : List Oper) (n b : Nat) : List Oper := l.take b ++ (l.drop (b + 1)).take (n - b - 1)
def posOf (b i : Nat) : Nat := if i < b then i else i - 1
theorem headsOf_get {l : List Oper} {n b : Nat} (hb : b < n) (hn : n ≤ l.length) {i : Nat} (hi : i < n) (hne : i ≠ b) : (headsOf l n b)[posOf b i]? = l[i]? := by
  unfold headsOf posOf
  by_cases h : i < b
  · rw [if_pos h, List.getElem?_append_left (by simp; omega), List.getElem?_take, if_pos h]
  · rw [if_neg h, List.getElem?_append_right (by simp; omega), List.length_take, List.getElem?_take, if_pos (by omega), List.getElem?_drop]
    congr 1; omega
theorem headsOf_length {l : List Oper} {n b : Nat} (hb : b < n) (hn : n ≤ l.length) : (headsOf l n b).length = n - 1 := by
  unfold headsOf; simp; omega
theorem headsOf_from {l : List Oper} {n b : Nat} (hb : b < n) (hn : n ≤ l.length) {q : Nat} {o : Oper} (h : (headsOf l n b)[q]? = some o) : ∃ j, j < n ∧ j ≠ b ∧ l[j]? = some o ∧ posOf b j = q := by
  have hq : q < n - 1 := by have := (List.getElem?_eq_some_iff.1 h).1; rwa [headsOf_length hb hn] at this
  by_cases hqb : q < b
  · have e : posOf b q = q := by unfold posOf; rw [if_pos hqb]
    exact ⟨q, by omega, by omega, by rw [← headsOf_get hb hn (by omega) (by omega), e, h], e⟩
  · have e : posOf b (q + 1) = q := by unfold posOf; rw [if_neg (by omega)]; omega
    exact ⟨q + 1, by omega, by omega, by rw [← headsOf_get hb hn (by omega) (by omega), e, h], e⟩

theorem exists_least : ∀ (U : List Nat), U ≠ [] → ∃ i ∈ U, ∀ j ∈ U, i ≤ j
  | [], h => absurd rfl h
  | [x], _ => ⟨x, by simp, by simp⟩
  | x :: y :: U, _ => by
    obtain ⟨i, hi, hm⟩ := exists_least (y :: U) (by simp)
    by_cases h : x ≤ i
    · exact ⟨x, by simp, fun j hj => by rcases List.mem_cons.1 hj with rfl | hj; exact Nat.le_refl _; exact Nat.le_trans h (hm j hj)⟩
    · exact ⟨i, List.mem_cons_of_mem _ hi, fun j hj => by rcases List.mem_cons.1 hj with rfl | hj; omega; exact hm j hj⟩
end

section
variable {P : Program} {l : List Oper} {n b : Nat} {ob : Oper} {W : World} {a0 A : Act} {bv : Nat → Value} {B : Nat → World → Prop} {Q : Exit → Act → World → Prop}

theorem flow_run (hB : Region.flowB l.toArray n b = true) (hob : l[b]? = some ob)
    (hq : ∀ Y : Later W, wpQuiet P l.toArray (fun w' => ∃ X : Later2 Y, w' = X.w) (fun a' => a' = A) (headsOf l n b) a0)
    (hb : ∀ w, Below W.heap.size W w → ∃ w', (execOp A.eval ob).run P w = .ok (.value (bv w.heap.size)) w' ∧ B w.heap.size w' ∧ Below w.heap.size w w')
    (hBp : ∀ g w w', B g w → Below w.heap.size w w' → B g w')
    (ht : ∀ g w, Below W.heap.size W w → B g w → wpList P l.toArray Q (l.drop n) (A.put ob.dst (bv g)) w) :
    ∀ (f : Nat) (U : List Nat) (listed : Array Bool) (a : Act) (w : World) (g : Nat), U.length = f → U.Nodup → (∀ i, i ∈ U ↔ i < n ∧ listed.getD i false = false) →
      Flow l.toArray n b ob W a0 A bv B listed a w g → wpAny P .any l.toArray Q (f + (l.toArray.size - n)) listed a w := by
  simp only [Region.flowB, Bool.and_eq_true, decide_eq_true_eq, List.all_eq_true, List.mem_range] at hB
  obtain ⟨⟨⟨⟨⟨⟨⟨⟨⟨hsel, hn⟩, hbn⟩, hsink⟩, hchain⟩, hseq⟩, hedge⟩, hpair⟩, hguard⟩, hblind⟩ := hB
  have hn' : n ≤ l.length := by have h := hn; rw [List.size_toArray] at h; omega
  have hsz : l.toArray.size = l.length := by simp
  have hget : ∀ i : Nat, l.toArray[i]? = l[i]? := fun i => by simp
  have hselect := Region.noSelect_spec hsel
  have hpw : (headsOf l n b).Pairwise (fun o o' => ∀ t, o.dst = some t → o'.dst ≠ some t) := by
    rw [List.pairwise_iff_getElem]
    intro i j hi hj hij t ht
    obtain ⟨i', h1, h2, h3, h4⟩ := headsOf_from hbn hn' (List.getElem?_eq_getElem hi)
    obtain ⟨j', k1, k2, k3, k4⟩ := headsOf_from hbn hn' (List.getElem?_eq_getElem hj)
    exact Region.flowPair_dst (hpair i' h1 j' k1) (by rw [hget]; exact h3) (by rw [hget]; exact k3) (fun e => by subst e; omega) ht
  have hA := quiet_text _ _ (hq ⟨W, Below.refl _ _⟩) hpw
  have hAo : ∀ t, (∀ j o, j < n → l.toArray[j]? = some o → j ≠ b → o.dst ≠ some t) → A.tmps[t]? = a0.tmps[t]? := fun t h => hA.1 t fun o ho => by
    obtain ⟨q, hq'⟩ := List.mem_iff_getElem?.1 ho
    obtain ⟨j, h1, h2, h3, _⟩ := headsOf_from hbn hn' hq'
    exact h j o h1 (by rw [hget]; exact h3) h2
  have hAs := hA.2.1
  have hAd := hA.2.2.1
  have hobA : l.toArray[b]? = some ob := by rw [hget]; exact hob
  intro f
  induction f with
  | zero =>
    intro U listed a w g hU _ hUm hF
    obtain rfl : U = [] := List.eq_nil_of_length_eq_zero hU
    have hall : ∀ i, i < n → listed.getD i false = true := fun i hi => by
      cases h : listed.getD i false with
      | true => rfl
      | false => have := (hUm i).2 ⟨hi, h⟩; simp at this
    have hl : listed = Region.marked l.toArray.size n := by
      apply Array.ext_getElem?
      intro i
      by_cases hi : i < l.toArray.size
      · have hil : i < listed.size := by rw [hF.inv.size]; exact hi
        have e2 : (Region.marked l.toArray.size n)[i]? = some (decide (i < n)) := by
          rw [List.size_toArray] at hi
          unfold Region.marked
          simp [hi]
        rw [e2, Array.getElem?_eq_getElem hil]
        by_cases hin : i < n
        · have := hall i hin
          simp [hil] at this
          simp [this, hin]
        · have := hF.inv.tail i (by omega) hi
          simp [hil] at this
          simp [this, hin]
      · rw [Array.getElem?_eq_none (by rw [hF.inv.size]; omega), Array.getElem?_eq_none (by rw [List.size_toArray] at hi; unfold Region.marked; simp; omega)]
    have hbt := hall b hbn
    have ha : a = A.put ob.dst (bv g) := by
      have htm : a.tmps = (A.put ob.dst (bv g)).tmps := by
        apply Array.ext_getElem?
        intro t
        rw [put_get]
        by_cases hbd : ob.dst = some t
        · rw [if_pos hbd, hF.slotb t hbd, if_pos hbt]
          by_cases h : t < a0.tmps.size
          · rw [Array.getElem?_eq_getElem h, Array.getElem?_eq_getElem (by rw [hAs]; exact h)]; rfl
          · rw [Array.getElem?_eq_none (by omega), Array.getElem?_eq_none (by rw [hAs]; omega)] <;> rfl
        · rw [if_neg hbd]
          by_cases h : ∃ j o, j < n ∧ l.toArray[j]? = some o ∧ o.dst = some t
          · obtain ⟨j, o, h1, h2, h3⟩ := h
            have hjb : j ≠ b := fun e => by subst e; rw [hobA] at h2; cases h2; exact hbd h3
            rw [hF.slot j o t h1 h2 h3 hjb, if_pos (hall j h1)]
          · have h' : ∀ j o, j < n → l.toArray[j]? = some o → o.dst ≠ some t := fun j o h1 h2 h3 => h ⟨j, o, h1, h2, h3⟩
            rw [hF.other t h', hAo t fun j o h1 h2 _ => h' j o h1 h2]
      have hd : a.defers = (A.put ob.dst (bv g)).defers := by rw [put_defers, hAd, hF.defers]
      cases a; simp only at htm hd; cases hX : A.put ob.dst (bv g); rw [hX] at htm hd; simp only at htm hd; rw [htm, hd]
    rw [ha]
    have hdl : (l.drop n).length = l.toArray.size - n := by simp
    have := wpAny_of_seq (md := .any) (Q' := Q) (ops := l.toArray) (l.drop n) n listed (A.put ob.dst (bv g)) w (fun j => by simp [List.getElem?_drop]) (by rw [hdl, hl]; exact hseq) (ht g w hF.later (hF.box hbt))
    rw [hdl] at this
    rwa [Nat.zero_add]
  | succ f ih =>
    intro U listed a w g hU hnd hUm hF
    obtain ⟨i0, hi0, hleast⟩ := exists_least U (fun e => by rw [e] at hU; simp at hU)
    obtain ⟨hi0n, hi0u⟩ := (hUm i0).1 hi0
    have hin : ∀ i, i < n → i < listed.size := fun i hi => by rw [hF.inv.size]; omega
    have hready : i0 ∈ Region.ready .any l.toArray listed := by
      have hlt : i0 < l.toArray.size := by omega
      refine mem_ready.2 ⟨getD_in (hin _ hi0n) hi0u, l.toArray[i0], Array.getElem?_eq_getElem hlt, fun e he hbd => ?_⟩
      have h1 := hedge i0 hi0n
      rw [Array.getElem?_eq_getElem hlt] at h1
      simp only [Array.all_eq_true_iff_forall_mem] at h1
      have h2 := h1 e he
      simp only [hbd, Bool.not_true, Bool.false_or, decide_eq_true_eq] at h2
      cases h : listed.getD e.on false with
      | true => rfl
      | false =>
        have := hleast e.on ((hUm e.on).2 ⟨by omega, h⟩)
        omega
    rw [show f + 1 + (l.toArray.size - n) = (f + (l.toArray.size - n)) + 1 by omega]
    refine ⟨fun h => (by rw [h] at hready; cases hready), fun i hi => ?_⟩
    obtain ⟨hiu, o, ho, hdep⟩ := mem_ready.1 hi
    have hilt : i < n := Nat.lt_of_not_le fun h => tail_waits hsink hchain hn hF.inv _ i0 rfl hi0n (getD_in (hin _ hi0n) hi0u) i h hi
    have hiU : i ∈ U := (hUm i).2 ⟨hilt, getD_both hiu⟩
    have hinv := hF.inv.set hi hilt
    have hlist : ∀ j, (listed.setIfInBounds i true).getD j false = if j = i then true else listed.getD j false := fun j => by
      by_cases h : j = i
      · subst h; rw [if_pos rfl]; simp [hin j hilt]
      · rw [if_neg h, getD_set_ne false (Ne.symm h)]
    have hUm' : ∀ j, j ∈ U.erase i ↔ j < n ∧ (listed.setIfInBounds i true).getD j false = false := fun j => by
      rw [hnd.mem_erase_iff, hUm j, hlist j]
      by_cases h : j = i
      · simp [h]
      · simp [h]
    have hlen' : (U.erase i).length = f := by rw [List.length_erase_of_mem hiU]; omega
    have hnd' := hnd.erase i
    -- what an operation looks at is as in the end
    have hseen : ∀ t ∈ o.looksAt l.toArray, ∀ j oj, j < n → l.toArray[j]? = some oj → oj.dst = some t → i ≠ j ∧ j < i ∧ listed.getD j false = true := by
      intro t ht j oj hj hoj hd
      have hne : i ≠ j := fun e => by
        subst e
        rw [ho] at hoj; cases hoj
        exact Region.flowPair_self (hpair i hilt i hilt) ho hd ht
      have h1 := Region.flowPair_looks (hpair i hilt j hj) ho hoj hne hd ht
      obtain ⟨o', ho', e, he, hbd, hon⟩ := Region.waitsFor_spec h1.2
      rw [ho] at ho'; cases ho'
      have := hdep e he hbd
      rw [hon] at this
      exact ⟨hne, h1.1, this⟩
    by_cases hib : i = b
    · subst hib
      rw [hobA] at ho; cases ho
      have hg : ob.guard = none := by rw [hobA] at hguard; simpa using hguard
      obtain ⟨w', hrun, hbox, hbel⟩ := hb w hF.later
      have hex : execOp a.eval ob = execOp A.eval ob := (seen_alike (ops := l.toArray) (fun cs bb => hselect i ob cs bb hobA) fun t htl => by
        by_cases h : ∃ j o, j < n ∧ l.toArray[j]? = some o ∧ o.dst = some t
        · obtain ⟨j, oj, h1, h2, h3⟩ := h
          obtain ⟨k1, k2, k3⟩ := hseen t htl j oj h1 h2 h3
          rw [hF.slot j oj t h1 h2 h3 (Ne.symm k1), if_pos k3]
        · have h' : ∀ j o, j < n → l.toArray[j]? = some o → o.dst ≠ some t := fun j o h1 h2 h3 => h ⟨j, o, h1, h2, h3⟩
          rw [hF.other t h', hAo t fun j o h1 h2 _ => h' j o h1 h2]).1
      unfold wpOp
      simp only [hobA]
      rw [if_pos (by simp [Region.wanted, hg])]
      refine .inl ?_
      unfold Oper.wp
      rw [hex, hrun]
      simp only [Oper.upon_value]
      refine ih (U.erase i) _ _ _ w.heap.size hlen' hnd' hUm' ⟨hinv, hF.later.trans (hbel.mono hF.later.size), by rw [put_size, hF.size], by rw [put_defers, hF.defers], ?_, ?_, ?_, fun _ => hbox⟩
      · intro j oj t hj hoj hd hjb
        have hne : ob.dst ≠ some t := fun h => Region.flowPair_dst (hpair i hilt j hj) hobA hoj (Ne.symm hjb) h hd
        rw [put_get, if_neg hne, hF.slot j oj t hj hoj hd hjb, hlist j, if_neg hjb]
      · intro t hd
        rw [put_get, if_pos hd, hlist i, if_pos rfl, if_pos rfl, hF.slotb t hd, if_neg (by rw [getD_both hiu]; simp)]
      · intro t h
        rw [put_get, if_neg (h i ob hilt hobA), hF.other t h]
    · have hpos := headsOf_get hbn hn' hilt hib
      have hol : l[i]? = some o := by rw [← hget]; exact ho
      rw [hol] at hpos
      have hsplit : headsOf l n b = (headsOf l n b).take (posOf b i) ++ o :: (headsOf l n b).drop (posOf b i + 1) := by
        have hlt := (List.getElem?_eq_some_iff.1 hpos).1
        have e := (List.getElem?_eq_some_iff.1 hpos).2
        rw [← e, ← List.drop_eq_getElem_cons hlt, List.take_append_drop]
      obtain ⟨_, _, _, htext⟩ := quiet_text _ _ (hq ⟨w, hF.later⟩) hpw
      obtain ⟨ai, v, hy, t1, t2, t3⟩ := htext _ o _ hsplit
      have hal := seen_alike (ops := l.toArray) (o := o) (a := a) (a' := ai) (fun cs bb => hselect i o cs bb ho) fun t htl => by
        by_cases h : ∃ j o, j < n ∧ l.toArray[j]? = some o ∧ o.dst = some t
        · obtain ⟨j, oj, h1, h2, h3⟩ := h
          obtain ⟨k1, k2, k3⟩ := hseen t htl j oj h1 h2 h3
          by_cases hjb : j = b
          · -- nobody else looks at b's yield
            subst hjb
            have h4 := hblind i hilt
            simp only [Bool.or_eq_true, beq_iff_eq, hib, false_or] at h4
            exact absurd htl (Region.blindTo_spec h4 ho h2 h3)
          · rw [hF.slot j oj t h1 h2 h3 hjb, if_pos k3]
            refine (t1 t ⟨oj, ?_, h3⟩).symm
            have hjp := headsOf_get hbn hn' h1 hjb
            rw [← hget, h2] at hjp
            refine List.mem_of_getElem? (i := posOf b j) ?_
            rw [List.getElem?_take, if_pos (by unfold posOf; split <;> split <;> omega)]
            exact hjp
        · have h' : ∀ j o, j < n → l.toArray[j]? = some o → o.dst ≠ some t := fun j o h1 h2 h3 => h ⟨j, o, h1, h2, h3⟩
          rw [hF.other t h']
          refine (t2 t fun p hp => ?_).symm
          obtain ⟨q, hq'⟩ := List.mem_iff_getElem?.1 (List.mem_of_mem_take hp)
          obtain ⟨j, h1, h2, h3, _⟩ := headsOf_from hbn hn' hq'
          exact h' j p h1 (by rw [hget]; exact h3)
      have hy' := hy.of_same hal.1 hal.2
      have hqo := hy'.qOp (K := fun a' => a' = a.put o.dst v) ho rfl
      refine wpOp_of_qOp ⟨⟨w, Below.refl _ _⟩, rfl⟩ ?_ hqo
      rintro a' w' ⟨X, rfl⟩ rfl
      have hX := X.h
      refine ih (U.erase i) _ _ _ g hlen' hnd' hUm' ⟨hinv, hF.later.trans (hX.mono hF.later.size), by rw [put_size, hF.size], by rw [put_defers, hF.defers], ?_, ?_, ?_, ?_⟩
      · intro j oj t hj hoj hd hjb
        rw [put_get, hlist j]
        by_cases hji : j = i
        · subst hji
          rw [ho] at hoj; cases hoj
          rw [if_pos hd, if_pos rfl, if_pos rfl, hF.slot j o t hj ho hd hjb, if_neg (by rw [getD_both hiu]; simp), t3 t hd]
        · have hne : o.dst ≠ some t := fun h => Region.flowPair_dst (hpair i hilt j hj) ho hoj (Ne.symm hji) h hd
          rw [if_neg hne, if_neg hji, hF.slot j oj t hj hoj hd hjb]
      · intro t hd
        have hne : o.dst ≠ some t := fun h => Region.flowPair_dst (hpair i hilt b hbn) ho hobA hib h hd
        rw [put_get, if_neg hne, hF.slotb t hd, hlist b, if_neg (Ne.symm hib)]
      · intro t h
        rw [put_get, if_neg (h i o hilt ho), hF.other t h]
      · intro h
        rw [hlist b, if_neg (Ne.symm hib)] at h
        exact hBp g w _ (hF.box h) hX

/-- A region that draws its order: operation b makes a row of cells; the other head operations are quiet in every world that has grown; the last ones run in the text's order behind them. -/
theorem wp_region_flow {id : Nat} (n b : Nat) (ob : Oper) (k : Nat) (e : TypeId) (hm : P.follows .mixedOrders = true) (hB : Region.flowB l.toArray n b = true) (hob : l[b]? = some ob)
    (hh : ∃ A, (∀ Y : Later W, wpQuiet P l.toArray (fun w' => ∃ X : Later2 Y, w' = X.w) (fun a' => a' = A) (headsOf l n b) a0) ∧
      ∃ cs, (∀ w, (execOp A.eval ob).run P w = .ok (.value (.slice (some ⟨w.heap.size, 0, none⟩) k k)) (w.alloc (.cells cs e))) ∧
        ∀ g w, Below W.heap.size W w → W.heap.size ≤ g → w.heap[g]? = some (.cells cs e (0, 0)) → wpList P l.toArray Q (l.drop n) (A.put ob.dst (.slice (some ⟨g, 0, none⟩) k k)) w) :
    (Code.region id l.toArray true).wp P Q a0 W := by
  obtain ⟨A, hq, cs, hb, ht⟩ := hh
  refine wp_region_any hm ?_
  have hB' := hB
  simp only [Region.flowB, Bool.and_eq_true, decide_eq_true_eq] at hB'
  have hn := hB'.1.1.1.1.1.1.1.1.2
  have inv0 : HeadInv .any l.toArray n (Array.replicate l.toArray.size false) :=
    ⟨by simp, fun j oj _ hl => (by rw [getD_replicate_false] at hl; cases hl), fun t _ ht => getD_in (by simpa using ht) (getD_replicate_false _ _)⟩
  have h := flow_run (W := W) (a0 := a0) (A := A) (bv := fun g => .slice (some ⟨g, 0, none⟩) k k) (B := fun g w => W.heap.size ≤ g ∧ w.heap[g]? = some (.cells cs e (0, 0))) (Q := Q) hB hob hq
    (fun w hw => ⟨_, hb w, ⟨hw.size, heap_alloc_new w _⟩, (Below.refl _ _).alloc (Nat.le_refl _) _⟩)
    (fun g w w' h hw => ⟨h.1, (hw.block g (Array.getElem?_eq_some_iff.1 h.2).1).trans h.2⟩)
    (fun g w hw h => ht g w hw h.1 h.2) n (List.range n) (Array.replicate l.toArray.size false) a0 { W with drawn := W.drawn + 1 } 0 (by simp) List.nodup_range (fun i => by rw [List.mem_range]; exact ⟨fun h => ⟨h, getD_replicate_false _ _⟩, fun h => h.1⟩)
    ⟨inv0, ⟨rfl, rfl, rfl, Nat.le_refl _, fun _ _ => rfl⟩, rfl, rfl, fun j o t _ _ _ _ => by rw [getD_replicate_false]; rfl, fun t _ => by rw [getD_replicate_false]; rfl, fun _ _ => rfl, fun h => by rw [getD_replicate_false] at h; cases h⟩
  rwa [show n + (l.toArray.size - n) = l.toArray.size by omega] at h
end
end Go

/- How values are read: cells from an address on, slices as lists; contracts of calls that only grow the world. -/
namespace Go.Proofs.Ytlakcghdehdeiaa
open Go Go.Proofs Go.RowKit

theorem bcell {W w1 : World} (hb : Below W.heap.size W w1) : (∀ b o, b < W.heap.size → w1.cell? ⟨b, o, none⟩ = W.cell? ⟨b, o, none⟩) ∧ (∀ b o, b < W.heap.size → w1.frozen? ⟨b, o, none⟩ = W.frozen? ⟨b, o, none⟩) :=
  ⟨fun b o h => hb.cell (p := ⟨b, o, none⟩) h, fun b o h => hb.frozen (p := ⟨b, o, none⟩) h⟩

/-- It returns v, and what lay there lies as it lay. -/
def Ret (v : Value) (w : World) (e : Ending) (w' : World) : Prop := e = .returned v ∧ Below w.heap.size w w'
theorem Ret.mk {v v' : Value} {w w' : World} (h : v' = v) (hb : Below w.heap.size w w') : Ret v w (.returned v') w' := ⟨by rw [h], hb⟩

def At (w : World) (b o : Nat) (vs : List Value) : Prop := ∀ j u, vs[j]? = some u → w.cell? ⟨b, o + j, none⟩ = some u
theorem At.below {w w' : World} {b o B : Nat} {vs : List Value} (h : At w b o vs) (hb : Below B w w') (hB : b < B) : At w' b o vs :=
  fun j u hu => (hb.cell (p := ⟨b, o + j, none⟩) hB).trans (h j u hu)
theorem At.c1 {w : World} {b o : Nat} {x : Value} (h : At w b o [x]) : w.cell? ⟨b, o, none⟩ = some x := h 0 x rfl
theorem At.c2 {w : World} {b o : Nat} {x y : Value} (h : At w b o [x, y]) : w.cell? ⟨b, o, none⟩ = some x ∧ w.cell? ⟨b, o + 1, none⟩ = some y := ⟨h 0 x rfl, h 1 y rfl⟩
theorem At.c5 {w : World} {b o : Nat} {x y z s t : Value} (h : At w b o [x, y, z, s, t]) : w.cell? ⟨b, o, none⟩ = some x ∧ w.cell? ⟨b, o + 1, none⟩ = some y ∧ w.cell? ⟨b, o + 2, none⟩ = some z ∧ w.cell? ⟨b, o + 3, none⟩ = some s ∧ w.cell? ⟨b, o + 4, none⟩ = some t :=
  ⟨h 0 x rfl, h 1 y rfl, h 2 z rfl, h 3 s rfl, h 4 t rfl⟩

/-- A slice reads as a list: element i at i times sz, its cells given by f; its block lies below B. -/
def Sl {α : Type} (f : α → List Value) (sz : Nat) (w : World) (B : Nat) (v : Value) (l : List α) : Prop :=
  ∃ a c, v = .slice a l.length c ∧ l.length ≤ 1000000000 ∧ (0 < l.length → ∃ b off, a = some ⟨b, off, none⟩ ∧ b < B ∧
    ∀ i (h : i < l.length), At w b (off + i * sz) (f l[i]))

theorem Sl.below {α : Type} {f : α → List Value} {sz : Nat} {w w' : World} {B : Nat} {v : Value} {l : List α} (h : Sl f sz w B v l) (hb : Below B w w') : Sl f sz w' B v l := by
  obtain ⟨a, c, rfl, hl, h⟩ := h
  refine ⟨a, c, rfl, hl, fun h0 => ?_⟩
  obtain ⟨b, off, rfl, hB, hc⟩ := h h0
  exact ⟨b, off, rfl, hB, fun i hi => (hc i hi).below hb hB⟩
theorem Sl.mono {α : Type} {f : α → List Value} {sz : Nat} {w : World} {B B' : Nat} {v : Value} {l : List α} (h : Sl f sz w B v l) (hB' : B ≤ B') : Sl f sz w B' v l := by
  obtain ⟨a, c, rfl, hl, h⟩ := h
  refine ⟨a, c, rfl, hl, fun h0 => ?_⟩
  obtain ⟨b, off, rfl, hB, hc⟩ := h h0
  exact ⟨b, off, rfl, by omega, hc⟩
/-- In a world that has grown. -/
theorem Sl.later {α : Type} {f : α → List Value} {sz : Nat} {w w' : World} {v : Value} {l : List α} (h : Sl f sz w w.heap.size v l) (hb : Below w.heap.size w w') : Sl f sz w' w'.heap.size v l :=
  (h.below hb).mono hb.size
theorem Sl.nil {α : Type} (f : α → List Value) (sz : Nat) (w : World) (B c : Nat) (a : Option Addr) : Sl f sz w B (.slice a 0 c) [] := ⟨a, c, rfl, by simp, fun h => absurd h (by simp)⟩

theorem flat_get {α : Type} (f : α → List Value) (sz : Nat) (hf : ∀ x, (f x).length = sz) (l : List α) : ∀ (i : Nat) (h : i < l.length) (j : Nat), j < sz → (l.flatMap f)[i * sz + j]? = (f l[i])[j]? := by
  induction l with
  | nil => intro i h; simp at h
  | cons x l ih =>
    intro i h j hj
    rw [List.flatMap_cons]
    cases i with
    | zero => rw [List.getElem?_append_left (by rw [hf]; omega)]; simp
    | succ i =>
      rw [List.getElem?_append_right (by rw [hf, Nat.succ_mul]; omega), hf, show (i + 1) * sz + j - sz = i * sz + j by rw [Nat.succ_mul]; omega]
      simpa using ih i (by simpa using h) j hj
theorem flat_length {α : Type} (f : α → List Value) (sz : Nat) (hf : ∀ x, (f x).length = sz) (l : List α) : (l.flatMap f).length = l.length * sz := by
  induction l with
  | nil => simp
  | cons x l ih => rw [List.flatMap_cons, List.length_append, hf, ih, List.length_cons, Nat.succ_mul, Nat.add_comm]

/-- What a call owns reads as a list. -/
theorem Sl.of_owns {α : Type} {f : α → List Value} {sz : Nat} {w : World} {base : Nat} {e : TypeId} {v : Value} {l : List α} (hf : ∀ x, (f x).length = sz) (hlen : l.length ≤ 1000000000)
    (h : w.ownsRow base e sz v l.length (l.flatMap f)) : Sl f sz w w.heap.size v l := by
  rcases h.2 with ⟨rfl, h0⟩ | ⟨g, cap, cur, rfl, _, hg, _⟩
  · obtain rfl : l = [] := List.eq_nil_of_length_eq_zero h0
    exact Sl.nil f sz w _ 0 none
  · refine ⟨_, cap, rfl, hlen, fun _ => ⟨g, 0, rfl, (Array.getElem?_eq_some_iff.1 hg).1, fun i hi j u hu => ?_⟩⟩
    have hj : j < sz := by have := (List.getElem?_eq_some_iff.1 hu).1; rwa [hf] at this
    rw [show 0 + i * sz + j = i * sz + j by omega, h.cellAt (i * sz + j) (by have : (i + 1) * sz ≤ l.length * sz := Nat.mul_le_mul_right _ hi; rw [Nat.succ_mul] at this; omega), flat_get f sz hf l i hi j hj]
    exact hu
/-- A slice that has just been written out. -/
theorem Sl.lit {α : Type} {f : α → List Value} {sz : Nat} (hf : ∀ x, (f x).length = sz) (l : List α) (w : World) (cs : Array Value) (e : TypeId) (n : Nat) (hn : n = l.length) (hcs : cs.toList = l.flatMap f) (hlen : l.length ≤ 1000000000) :
    Sl f sz (w.alloc (.cells cs e)) (w.alloc (.cells cs e)).heap.size (.slice (some ⟨w.heap.size, 0, none⟩) n n) l := by
  subst hn
  have h := World.ownsRow_lit (base := 0) (e := e) (size := sz) w cs l.length (by omega) (by simp [maxLen]; omega) (by rw [← Array.length_toList, hcs, flat_length f sz hf])
  rw [hcs] at h
  exact Sl.of_owns hf hlen h

/-- One integer an element. -/
def encI (n : Int) : List Value := [.int .i64 n]
theorem encI_len (n : Int) : (encI n).length = 1 := rfl
def encB (b : Bool) : List Value := [.bool b]
theorem encB_len (b : Bool) : (encB b).length = 1 := rfl

structure Rg where
  lo : Int
  hi : Int
  deriving DecidableEq, Repr, Inhabited
def Rg.enc (r : Rg) : List Value := [.int .i64 r.lo, .int .i64 r.hi]
theorem Rg.enc_len (r : Rg) : r.enc.length = 2 := rfl

/-- A block that holds just these cells: a boxed local. -/
def Box (w : World) (b : Nat) (e : TypeId) (vs : List Value) : Prop := w.heap[b]? = some (.cells vs.toArray e (0, 0))
theorem Box.cell {w : World} {b : Nat} {e : TypeId} {vs : List Value} (h : Box w b e vs) (j : Nat) : w.cell? ⟨b, j, none⟩ = vs[j]? := by
  rw [cell_of_row w b j _ e (0, 0) h]; simp
theorem Box.frozen {w : World} {b : Nat} {e : TypeId} {vs : List Value} (h : Box w b e vs) (o : Nat) : w.frozen? ⟨b, o, none⟩ = false := frozen_of_row w b o _ e h
theorem Box.lt {w : World} {b : Nat} {e : TypeId} {vs : List Value} (h : Box w b e vs) : b < w.heap.size := (Array.getElem?_eq_some_iff.1 h).1
theorem Box.new (w : World) (cs : Array Value) (e : TypeId) : Box (w.alloc (.cells cs e)) w.heap.size e cs.toList := by
  unfold Box; rw [heap_alloc_new]
theorem Box.newAt (w : World) (cs : Array Value) (e : TypeId) {n : Nat} (h : w.heap.size = n) : Box (w.alloc (.cells cs e)) n e cs.toList := by subst h; exact Box.new w cs e
theorem Box.alloc {w : World} {b : Nat} {e : TypeId} {vs : List Value} (h : Box w b e vs) (o : Obj) : Box (w.alloc o) b e vs := by
  unfold Box; rw [heap_alloc_old w o h.lt]; exact h
theorem Box.drew {w : World} {b : Nat} {e : TypeId} {vs : List Value} (h : Box w b e vs) : Box w.drew b e vs := h
theorem Box.below {w w' : World} {b B : Nat} {e : TypeId} {vs : List Value} (h : Box w b e vs) (hb : Below B w w') (hB : b < B) : Box w' b e vs := (hb.block b hB).trans h
theorem Box.later {w w' : World} {b : Nat} {e : TypeId} {vs : List Value} (h : Box w b e vs) (hb : Below w.heap.size w w') : Box w' b e vs := h.below hb h.lt
theorem Box.set {w : World} {b : Nat} {e : TypeId} {vs : List Value} (h : Box w b e vs) (j : Nat) (u : Value) : Box (w.setCell ⟨b, j, none⟩ u) b e (vs.set j u) := by
  unfold Box; rw [heap_setCell_same w b j _ e u h]; simp
theorem Box.other {w : World} {b : Nat} {e : TypeId} {vs : List Value} (h : Box w b e vs) {a : Addr} (u : Value) (hne : a.block ≠ b) : Box (w.setCell a u) b e vs := by
  unfold Box; rw [heap_setCell_other w a b u (Ne.symm hne)]; exact h
theorem Box.kept {w w' : World} {b : Nat} {e : TypeId} {vs : List Value} {row : Option Nat} (h : Box w b e vs) (hg : w.grownBy w' row) (hne : some b ≠ row) : Box w' b e vs := (hg.block b h.lt hne).trans h
theorem Box.v1 {w : World} {b : Nat} {e : TypeId} {x : Value} (h : Box w b e [x]) : w.cell? ⟨b, 0, none⟩ = some x ∧ (∀ o, w.frozen? ⟨b, o, none⟩ = false) ∧ b < w.heap.size := ⟨h.cell 0, h.frozen, h.lt⟩
theorem Box.v2 {w : World} {b : Nat} {e : TypeId} {x y : Value} (h : Box w b e [x, y]) : w.cell? ⟨b, 0, none⟩ = some x ∧ w.cell? ⟨b, 1, none⟩ = some y ∧ (∀ o, w.frozen? ⟨b, o, none⟩ = false) ∧ b < w.heap.size :=
  ⟨h.cell 0, h.cell 1, h.frozen, h.lt⟩

/-- What the boxes of a call hold behind a callee that only grew the world: box i lies i blocks behind the first. -/
theorem boxes1 {w W w1 : World} (hs : W.heap.size = w.heap.size + 1) (hb : Below W.heap.size W w1) :
    (∀ o, w1.cell? ⟨w.heap.size, o, none⟩ = W.cell? ⟨w.heap.size, o, none⟩) ∧
    (∀ o, w1.frozen? ⟨w.heap.size, o, none⟩ = W.frozen? ⟨w.heap.size, o, none⟩) ∧ w.heap.size < w1.heap.size := by
  have hz := hb.size
  refine ⟨fun o => hb.cell (p := ⟨_, o, none⟩) (by dsimp only; omega), fun o => hb.frozen (p := ⟨_, o, none⟩) (by dsimp only; omega), by omega⟩
theorem boxes2 {w W w1 : World} (hs : W.heap.size = w.heap.size + 1 + 1) (hb : Below W.heap.size W w1) :
    (∀ o, w1.cell? ⟨w.heap.size, o, none⟩ = W.cell? ⟨w.heap.size, o, none⟩) ∧ (∀ o, w1.cell? ⟨w.heap.size + 1, o, none⟩ = W.cell? ⟨w.heap.size + 1, o, none⟩) ∧
    (∀ o, w1.frozen? ⟨w.heap.size, o, none⟩ = W.frozen? ⟨w.heap.size, o, none⟩) ∧ (∀ o, w1.frozen? ⟨w.heap.size + 1, o, none⟩ = W.frozen? ⟨w.heap.size + 1, o, none⟩) ∧ w.heap.size < w1.heap.size ∧ w.heap.size + 1 < w1.heap.size := by
  have hz := hb.size
  refine ⟨fun o => hb.cell (p := ⟨_, o, none⟩) (by dsimp only; omega), fun o => hb.cell (p := ⟨_, o, none⟩) (by dsimp only; omega), fun o => hb.frozen (p := ⟨_, o, none⟩) (by dsimp only; omega), fun o => hb.frozen (p := ⟨_, o, none⟩) (by dsimp only; omega), by omega, by omega⟩
theorem boxes3 {w W w1 : World} (hs : W.heap.size = w.heap.size + 1 + 1 + 1) (hb : Below W.heap.size W w1) :
    (∀ o, w1.cell? ⟨w.heap.size, o, none⟩ = W.cell? ⟨w.heap.size, o, none⟩) ∧ (∀ o, w1.cell? ⟨w.heap.size + 1, o, none⟩ = W.cell? ⟨w.heap.size + 1, o, none⟩) ∧ (∀ o, w1.cell? ⟨w.heap.size + 1 + 1, o, none⟩ = W.cell? ⟨w.heap.size + 1 + 1, o, none⟩) ∧
    (∀ o, w1.frozen? ⟨w.heap.size, o, none⟩ = W.frozen? ⟨w.heap.size, o, none⟩) ∧ (∀ o, w1.frozen? ⟨w.heap.size + 1, o, none⟩ = W.frozen? ⟨w.heap.size + 1, o, none⟩) ∧ (∀ o, w1.frozen? ⟨w.heap.size + 1 + 1, o, none⟩ = W.frozen? ⟨w.heap.size + 1 + 1, o, none⟩) ∧ w.heap.size < w1.heap.size ∧ w.heap.size + 1 < w1.heap.size ∧ w.heap.size + 1 + 1 < w1.heap.size := by
  have hz := hb.size
  refine ⟨fun o => hb.cell (p := ⟨_, o, none⟩) (by dsimp only; omega), fun o => hb.cell (p := ⟨_, o, none⟩) (by dsimp only; omega), fun o => hb.cell (p := ⟨_, o, none⟩) (by dsimp only; omega), fun o => hb.frozen (p := ⟨_, o, none⟩) (by dsimp only; omega), fun o => hb.frozen (p := ⟨_, o, none⟩) (by dsimp only; omega), fun o => hb.frozen (p := ⟨_, o, none⟩) (by dsimp only; omega), by omega, by omega, by omega⟩
theorem boxes4 {w W w1 : World} (hs : W.heap.size = w.heap.size + 1 + 1 + 1 + 1) (hb : Below W.heap.size W w1) :
    (∀ o, w1.cell? ⟨w.heap.size, o, none⟩ = W.cell? ⟨w.heap.size, o, none⟩) ∧ (∀ o, w1.cell? ⟨w.heap.size + 1, o, none⟩ = W.cell? ⟨w.heap.size + 1, o, none⟩) ∧ (∀ o, w1.cell? ⟨w.heap.size + 1 + 1, o, none⟩ = W.cell? ⟨w.heap.size + 1 + 1, o, none⟩) ∧ (∀ o, w1.cell? ⟨w.heap.size + 1 + 1 + 1, o, none⟩ = W.cell? ⟨w.heap.size + 1 + 1 + 1, o, none⟩) ∧
    (∀ o, w1.frozen? ⟨w.heap.size, o, none⟩ = W.frozen? ⟨w.heap.size, o, none⟩) ∧ (∀ o, w1.frozen? ⟨w.heap.size + 1, o, none⟩ = W.frozen? ⟨w.heap.size + 1, o, none⟩) ∧ (∀ o, w1.frozen? ⟨w.heap.size + 1 + 1, o, none⟩ = W.frozen? ⟨w.heap.size + 1 + 1, o, none⟩) ∧ (∀ o, w1.frozen? ⟨w.heap.size + 1 + 1 + 1, o, none⟩ = W.frozen? ⟨w.heap.size + 1 + 1 + 1, o, none⟩) ∧ w.heap.size < w1.heap.size ∧ w.heap.size + 1 < w1.heap.size ∧ w.heap.size + 1 + 1 < w1.heap.size ∧ w.heap.size + 1 + 1 + 1 < w1.heap.size := by
  have hz := hb.size
  refine ⟨fun o => hb.cell (p := ⟨_, o, none⟩) (by dsimp only; omega), fun o => hb.cell (p := ⟨_, o, none⟩) (by dsimp only; omega), fun o => hb.cell (p := ⟨_, o, none⟩) (by dsimp only; omega), fun o => hb.cell (p := ⟨_, o, none⟩) (by dsimp only; omega), fun o => hb.frozen (p := ⟨_, o, none⟩) (by dsimp only; omega), fun o => hb.frozen (p := ⟨_, o, none⟩) (by dsimp only; omega), fun o => hb.frozen (p := ⟨_, o, none⟩) (by dsimp only; omega), fun o => hb.frozen (p := ⟨_, o, none⟩) (by dsimp only; omega), by omega, by omega, by omega, by omega⟩
theorem boxes5 {w W w1 : World} (hs : W.heap.size = w.heap.size + 1 + 1 + 1 + 1 + 1) (hb : Below W.heap.size W w1) :
    (∀ o, w1.cell? ⟨w.heap.size, o, none⟩ = W.cell? ⟨w.heap.size, o, none⟩) ∧ (∀ o, w1.cell? ⟨w.heap.size + 1, o, none⟩ = W.cell? ⟨w.heap.size + 1, o, none⟩) ∧ (∀ o, w1.cell? ⟨w.heap.size + 1 + 1, o, none⟩ = W.cell? ⟨w.heap.size + 1 + 1, o, none⟩) ∧ (∀ o, w1.cell? ⟨w.heap.size + 1 + 1 + 1, o, none⟩ = W.cell? ⟨w.heap.size + 1 + 1 + 1, o, none⟩) ∧ (∀ o, w1.cell? ⟨w.heap.size + 1 + 1 + 1 + 1, o, none⟩ = W.cell? ⟨w.heap.size + 1 + 1 + 1 + 1, o, none⟩) ∧
    (∀ o, w1.frozen? ⟨w.heap.size, o, none⟩ = W.frozen? ⟨w.heap.size, o, none⟩) ∧ (∀ o, w1.frozen? ⟨w.heap.size + 1, o, none⟩ = W.frozen? ⟨w.heap.size + 1, o, none⟩) ∧ (∀ o, w1.frozen? ⟨w.heap.size + 1 + 1, o, none⟩ = W.frozen? ⟨w.heap.size + 1 + 1, o, none⟩) ∧ (∀ o, w1.frozen? ⟨w.heap.size + 1 + 1 + 1, o, none⟩ = W.frozen? ⟨w.heap.size + 1 + 1 + 1, o, none⟩) ∧ (∀ o, w1.frozen? ⟨w.heap.size + 1 + 1 + 1 + 1, o, none⟩ = W.frozen? ⟨w.heap.size + 1 + 1 + 1 + 1, o, none⟩) ∧ w.heap.size < w1.heap.size ∧ w.heap.size + 1 < w1.heap.size ∧ w.heap.size + 1 + 1 < w1.heap.size ∧ w.heap.size + 1 + 1 + 1 < w1.heap.size ∧ w.heap.size + 1 + 1 + 1 + 1 < w1.heap.size := by
  have hz := hb.size
  refine ⟨fun o => hb.cell (p := ⟨_, o, none⟩) (by dsimp only; omega), fun o => hb.cell (p := ⟨_, o, none⟩) (by dsimp only; omega), fun o => hb.cell (p := ⟨_, o, none⟩) (by dsimp only; omega), fun o => hb.cell (p := ⟨_, o, none⟩) (by dsimp only; omega), fun o => hb.cell (p := ⟨_, o, none⟩) (by dsimp only; omega), fun o => hb.frozen (p := ⟨_, o, none⟩) (by dsimp only; omega), fun o => hb.frozen (p := ⟨_, o, none⟩) (by dsimp only; omega), fun o => hb.frozen (p := ⟨_, o, none⟩) (by dsimp only; omega), fun o => hb.frozen (p := ⟨_, o, none⟩) (by dsimp only; omega), fun o => hb.frozen (p := ⟨_, o, none⟩) (by dsimp only; omega), by omega, by omega, by omega, by omega, by omega⟩
end Go.Proofs.Ytlakcghdehdeiaa

/- Slices that a call owns, element by element: one more element, another element in a place. -/
namespace Go.Proofs.Ytlakcghdehdeiaa
open Go Go.Proofs Go.RowKit

/-- The call owns slice v, which holds the list l. -/
def Own {α : Type} (f : α → List Value) (sz : Nat) (e : TypeId) (w : World) (base : Nat) (v : Value) (l : List α) : Prop := w.ownsRow base e sz v l.length (l.flatMap f)

section
variable {α : Type} {f : α → List Value} {sz : Nat} {e : TypeId} {w w' : World} {base : Nat} {v : Value} {l : List α}
theorem Own.nil (f : α → List Value) (sz : Nat) (e : TypeId) (w : World) (base : Nat) : Own f sz e w base (.slice none 0 0) [] := World.ownsRow_nil w base e sz
theorem Own.drewN (h : Own f sz e w base v l) (n : Nat) : Own f sz e (w.drewN n) base v l := h
theorem Own.drew (h : Own f sz e w base v l) : Own f sz e w.drew base v l := h
theorem Own.alloc (h : Own f sz e w base v l) (o : Obj) : Own f sz e (w.alloc o) base v l := World.ownsRow.alloc h o
theorem Own.kept {row : Option Nat} (h : Own f sz e w base v l) (hg : w.grownBy w' row) (hne : v.ownBlock = none ∨ v.ownBlock ≠ row) : Own f sz e w' base v l := World.ownsRow.kept h hg hne
theorem Own.ne (h : Own f sz e w base v l) {b : Nat} (hb : b < base) : some b ≠ v.ownBlock := fun h2 => by
  have := (World.ownsRow.lt h b h2.symm).1
  omega
theorem Own.later (h : Own f sz e w base v l) (hb : Below w.heap.size w w') : Own f sz e w' base v l := by
  refine h.kept (row := none) ⟨hb.os, hb.tape, hb.output, hb.size, fun k hk _ => hb.block k hk⟩ ?_
  cases v.ownBlock <;> simp
theorem Own.other (h : Own f sz e w base v l) {a : Addr} (u : Value) (hne : v.ownBlock ≠ some a.block) : Own f sz e (w.setCell a u) base v l := ownsRow_setCell_other h hne u
theorem Own.below (h : Own f sz e w base v l) {a : Addr} (u : Value) (hne : a.block < base) : Own f sz e (w.setCell a u) base v l := h.other u (fun h2 => h.ne hne h2.symm)
theorem Own.toSl (h : Own f sz e w base v l) (hf : ∀ x, (f x).length = sz) (hlen : l.length ≤ 1000000000) : Sl f sz w w.heap.size v l := Sl.of_owns hf hlen h
/-- With an element, it is a slice at the head of a row. -/
theorem Own.form (h : Own f sz e w base v l) (hn : 0 < l.length) : ∃ g cap, v = .slice (some ⟨g, 0, none⟩) l.length cap ∧ base ≤ g ∧ g < w.heap.size := by
  rcases h.2 with ⟨_, h0⟩ | ⟨g, cap, cur, hv, hb, hg, _⟩
  · omega
  · exact ⟨g, cap, hv, hb, (Array.getElem?_eq_some_iff.1 hg).1⟩
/-- In any case it is a slice of this length. -/
theorem Own.shape (h : Own f sz e w base v l) : ∃ a cap, v = .slice a l.length cap := by
  rcases h.2 with ⟨hv, h0⟩ | ⟨g, cap, cur, hv, _⟩
  · exact ⟨none, 0, by rw [hv, h0]⟩
  · exact ⟨_, cap, hv⟩
theorem Own.at {g cap : Nat} (h : Own f sz e w base (.slice (some ⟨g, 0, none⟩) l.length cap) l) (hf : ∀ x, (f x).length = sz) (i : Nat) (hi : i < l.length) : At w g (i * sz) (f l[i]) := fun j u hu => by
  have hj : j < sz := by have := (List.getElem?_eq_some_iff.1 hu).1; rwa [hf] at this
  rw [World.ownsRow.cellAt h (i * sz + j) (by have : (i + 1) * sz ≤ l.length * sz := Nat.mul_le_mul_right _ hi; rw [Nat.succ_mul] at this; omega), flat_get f sz hf l i hi j hj]
  exact hu
theorem Own.frozen {g cap : Nat} (h : Own f sz e w base (.slice (some ⟨g, 0, none⟩) l.length cap) l) (o : Nat) : w.frozen? ⟨g, o, none⟩ = false := World.ownsRow.frozenAt h o

theorem flat_set (hf : ∀ x, (f x).length = sz) (l : List α) : ∀ (i : Nat) (hi : i < l.length) (j : Nat) (_ : j < sz) (u : Value) (y : α), f y = (f l[i]).set j u → (l.flatMap f).set (i * sz + j) u = (l.set i y).flatMap f := by
  induction l with
  | nil => intro i hi; simp at hi
  | cons x l ih =>
    intro i hi j hj u y hy
    cases i with
    | zero =>
      simp only [List.getElem_cons_zero] at hy
      simp only [List.flatMap_cons, List.set_cons_zero, Nat.zero_mul, Nat.zero_add, hy]
      rw [List.set_append_left _ _ (by rw [hf]; exact hj)]
    | succ i =>
      simp only [List.getElem_cons_succ] at hy
      simp only [List.flatMap_cons, List.set_cons_succ]
      rw [List.set_append_right _ _ (by rw [hf, Nat.succ_mul]; omega), hf, show (i + 1) * sz + j - sz = i * sz + j by rw [Nat.succ_mul]; omega, ih i (by simpa using hi) j hj u y hy]
/-- One cell of element i written. -/
theorem Own.set {g cap : Nat} (h : Own f sz e w base (.slice (some ⟨g, 0, none⟩) l.length cap) l) (hf : ∀ x, (f x).length = sz) (i : Nat) (hi : i < l.length) (j : Nat) (hj : j < sz) (u : Value) (y : α) (hy : f y = (f l[i]).set j u) :
    Own f sz e (w.setCell ⟨g, i * sz + j, none⟩ u) base (.slice (some ⟨g, 0, none⟩) l.length cap) (l.set i y) := by
  have := (World.ownsRow.stored h (i * sz + j) u).1
  unfold Own
  rw [List.length_set, ← flat_set hf l i hi j hj u y hy]
  exact this
end

/-- Literal slices, zero slices. -/
theorem Own.lit {α : Type} {f : α → List Value} {sz : Nat} (hf : ∀ x, (f x).length = sz) (e : TypeId) (l : List α) (w : World) (cs : Array Value) (n : Nat) (base : Nat) (hn : n = l.length) (hcs : cs.toList = l.flatMap f) (hlen : l.length ≤ 1000000000) (hb : base ≤ w.heap.size) :
    Own f sz e (w.alloc (.cells cs e)) base (.slice (some ⟨w.heap.size, 0, none⟩) n n) l := by
  subst hn
  have h := World.ownsRow_lit (base := base) (e := e) (size := sz) w cs l.length hb (by simp [maxLen]; omega) (by rw [← Array.length_toList, hcs, flat_length f sz hf])
  rw [hcs] at h
  exact h

/-- 'append(s, x)', s a slice that the call owns, x one element that has just been laid. -/
theorem wpList_push {α : Type} (f : α → List Value) (sz bytes : Nat) (t e : TypeId) (z : Value) {P : Program} (hT : P.underlying t = some (.slice e)) (hI : (P.info? e).map (fun i => (i.zero, i.size, i.bytes)) = some (some z, sz, bytes))
    (hzs : z.cells.size = sz) (hsz : 0 < sz) (hby : bytes ≤ 1000) (hf : ∀ x, (f x).length = sz) (h1c : ∀ x, ∀ u ∈ f x, u.oneCell' = true)
    (l : List α) (x : α) (base : Nat) (w0 : World) (cs : Array Value) (hcs : cs.toList = f x) (v : Value) (hown : Own f sz e w0 base v l) (hbase : base ≤ w0.heap.size) (hlen : l.length ≤ 1000000)
    {ops : Array Oper} {rest : List Oper} {o : Oper} {a : Act} {Q : Exit → Act → World → Prop} (hgd : o.guard = none) (s y : Operand)
    (ho : o.op = .call { callee := .builtin .append, args := #[s, y], argTypes := #[t, t] }) (hs : a.eval s = v) (hy : a.eval y = .slice (some ⟨w0.heap.size, 0, none⟩) 1 1)
    (h : ∀ v' w', Own f sz e w' base v' (l ++ [x]) → w0.grownBy w' v.ownBlock → wpList P ops Q rest (a.put o.dst v') w') : wpList P ops Q (o :: rest) a (w0.alloc (.cells cs e)) := by
  obtain ⟨i, hi, hz0, hz1, hz2⟩ := info_parts hI
  have hmul : (l.length + 1) * bytes ≤ 1000001 * 1000 := Nat.mul_le_mul (by omega) hby
  refine wpList_append_own _ hgd s y t ho base e i z sz bytes hT hi hz0 hz1 hz2 hzs hsz v l.length _ hs (hown.alloc _) ⟨w0.heap.size, 0, none⟩ 1 1 (f x) hy (by rw [hf]; omega) ?_ (h1c x) (by simp [maxLen]; omega) (by omega) (by simp; omega) ?_
  · intro j u hu
    rw [Addr.add_lit, Nat.zero_add, cell_of_row _ w0.heap.size j cs e (0, 0) (heap_alloc_new w0 _)]
    rw [← hcs] at hu
    simpa using hu
  · intro v' w' ho' hg' _
    refine h v' w' ?_ ⟨hg'.os, hg'.tape, hg'.output, Nat.le_trans (by simp) hg'.size, fun k hk hne => (hg'.block k (by simp; omega) hne).trans (heap_alloc_old w0 _ hk)⟩
    unfold Own
    rw [List.length_append, List.length_singleton, List.flatMap_append, List.flatMap_singleton]
    exact ho'

/-- The same as a step of a region that draws its order. -/
theorem step_push {α : Type} (f : α → List Value) (sz bytes : Nat) (t e : TypeId) (z : Value) {P : Program} (hT : P.underlying t = some (.slice e)) (hI : (P.info? e).map (fun i => (i.zero, i.size, i.bytes)) = some (some z, sz, bytes))
    (hzs : z.cells.size = sz) (hsz : 0 < sz) (hby : bytes ≤ 1000) (hf : ∀ x, (f x).length = sz) (h1c : ∀ x, ∀ u ∈ f x, u.oneCell' = true)
    (l : List α) (x : α) (base : Nat) (w0 : World) (cs : Array Value) (hcs : cs.toList = f x) (v : Value) (hown : Own f sz e w0 base v l) (hbase : base ≤ w0.heap.size) (hlen : l.length ≤ 1000000)
    {ops : Array Oper} {o : Oper} {a : Act} {K : Act → World → Prop} {Q : Exit → Act → World → Prop} {E : Prop} (hgd : o.guard = none) (s y : Operand)
    (ho : o.op = .call { callee := .builtin .append, args := #[s, y], argTypes := #[t, t] }) (hs : a.eval s = v) (hy : a.eval y = .slice (some ⟨w0.heap.size, 0, none⟩) 1 1)
    (h : ∀ v' w', Own f sz e w' base v' (l ++ [x]) → w0.grownBy w' v.ownBlock → K (a.put o.dst v') w') :
    if Region.wanted o (yielded ops a.tmps) = true then Oper.wp P o a (w0.alloc (.cells cs e)) K Q else E := by
  have hw : Region.wanted o (yielded ops a.tmps) = true := by simp [Region.wanted, hgd]
  rw [if_pos hw]
  obtain ⟨i, hi, hz0, hz1, hz2⟩ := info_parts hI
  have hmul : (l.length + 1) * bytes ≤ 1000001 * 1000 := Nat.mul_le_mul (by omega) hby
  refine wp_append_own _ s y t ho base e i z sz bytes hT hi hz0 hz1 hz2 hzs hsz v l.length _ hs (hown.alloc _) ⟨w0.heap.size, 0, none⟩ 1 1 (f x) hy (by rw [hf]; omega) ?_ (h1c x) (by simp [maxLen]; omega) (by omega) (by simp; omega) ?_
  · intro j u hu
    rw [Addr.add_lit, Nat.zero_add, cell_of_row _ w0.heap.size j cs e (0, 0) (heap_alloc_new w0 _)]
    rw [← hcs] at hu
    simpa using hu
  · intro v' w' ho' hg' _
    refine h v' w' ?_ ⟨hg'.os, hg'.tape, hg'.output, Nat.le_trans (by simp) hg'.size, fun k hk hne => (hg'.block k (by simp; omega) hne).trans (heap_alloc_old w0 _ hk)⟩
    unfold Own
    rw [List.length_append, List.length_singleton, List.flatMap_append, List.flatMap_singleton]
    exact ho'

/-- 'append(s, x)', x one element in a row of its own at g. -/
theorem wpList_pushB {α : Type} (f : α → List Value) (sz bytes : Nat) (t e : TypeId) (z : Value) {P : Program} (hT : P.underlying t = some (.slice e)) (hI : (P.info? e).map (fun i => (i.zero, i.size, i.bytes)) = some (some z, sz, bytes))
    (hzs : z.cells.size = sz) (hsz : 0 < sz) (hby : bytes ≤ 1000) (hf : ∀ x, (f x).length = sz) (h1c : ∀ x, ∀ u ∈ f x, u.oneCell' = true)
    (l : List α) (x : α) (base : Nat) (w : World) (g : Nat) (cs : Array Value) (e' : TypeId) (hg : w.heap[g]? = some (.cells cs e' (0, 0))) (hcs : cs.toList = f x) (v : Value) (hown : Own f sz e w base v l) (hbase : base ≤ w.heap.size) (hlen : l.length ≤ 1000000)
    {ops : Array Oper} {rest : List Oper} {o : Oper} {a : Act} {Q : Exit → Act → World → Prop} (hgd : o.guard = none) (s y : Operand)
    (ho : o.op = .call { callee := .builtin .append, args := #[s, y], argTypes := #[t, t] }) (hs : a.eval s = v) (hy : a.eval y = .slice (some ⟨g, 0, none⟩) 1 1)
    (h : ∀ v' w', Own f sz e w' base v' (l ++ [x]) → w.grownBy w' v.ownBlock → wpList P ops Q rest (a.put o.dst v') w') : wpList P ops Q (o :: rest) a w := by
  obtain ⟨i, hi, hz0, hz1, hz2⟩ := info_parts hI
  have hmul : (l.length + 1) * bytes ≤ 1000001 * 1000 := Nat.mul_le_mul (by omega) hby
  refine wpList_append_own _ hgd s y t ho base e i z sz bytes hT hi hz0 hz1 hz2 hzs hsz v l.length _ hs hown ⟨g, 0, none⟩ 1 1 (f x) hy (by rw [hf]; omega) ?_ (h1c x) (by simp [maxLen]; omega) (by omega) hbase ?_
  · intro j u hu
    rw [Addr.add_lit, Nat.zero_add, cell_of_row _ g j cs e' (0, 0) hg]
    rw [← hcs] at hu
    simpa using hu
  · intro v' w' ho' hg' _
    refine h v' w' ?_ hg'
    unfold Own
    rw [List.length_append, List.length_singleton, List.flatMap_append, List.flatMap_singleton]
    exact ho'

/-- What an append to a slice owned from 'base' on leaves of the rest. -/
theorem grown_below {w w' : World} {base : Nat} {v : Value} {B : Nat} {w0 : World} (hb : Below B w0 w) (hg : w.grownBy w' v.ownBlock) (hB : B ≤ w.heap.size) (hlt : ∀ k, v.ownBlock = some k → base ≤ k) (hBb : B ≤ base) : Below B w0 w' :=
  hb.grown hg hB fun k hk => Nat.le_trans hBb (hlt k hk)
theorem Own.lt' {α : Type} {f : α → List Value} {sz : Nat} {e : TypeId} {w : World} {base : Nat} {v : Value} {l : List α} (h : Own f sz e w base v l) : ∀ k, v.ownBlock = some k → base ≤ k := fun k hk => (World.ownsRow.lt h k hk).1
end Go.Proofs.Ytlakcghdehdeiaa

/- Plain arithmetic: quotients rounded down. -/
namespace Go.Proofs.Ytlakcghdehdeiaa
theorem quo_down (a b : Int) (hb : 0 < b) : a / b = if a.tmod b < 0 then a.tdiv b - 1 else a.tdiv b := by
  have h1 := Int.tmod_add_mul_tdiv a b
  have h2 := Int.emod_add_mul_ediv a b
  have h3 := Int.emod_nonneg a (b := b) (by omega)
  have h4 := Int.emod_lt_of_pos a hb
  have h5 := Int.tmod_lt_of_pos a hb
  have h6 := Int.lt_tmod_of_pos a hb
  generalize a / b = q at *
  generalize a % b = r at *
  generalize a.tdiv b = q' at *
  generalize a.tmod b = r' at *
  have h7 : b * (q - q') = r' - r := by rw [Int.mul_sub]; omega
  split
  · have : b * (q - q' + 1) = r' - r + b := by rw [Int.mul_add]; omega
    have : q - q' + 1 = 0 := by
      rcases Int.lt_trichotomy (q - q' + 1) 0 with h | h | h
      · have := Int.mul_le_mul_of_nonneg_left (show q - q' + 1 ≤ -1 by omega) (show 0 ≤ b by omega)
        omega
      · exact h
      · have := Int.mul_le_mul_of_nonneg_left (show 1 ≤ q - q' + 1 by omega) (show 0 ≤ b by omega)
        omega
    omega
  · have : q - q' = 0 := by
      rcases Int.lt_trichotomy (q - q') 0 with h | h | h
      · have := Int.mul_le_mul_of_nonneg_left (show q - q' ≤ -1 by omega) (show 0 ≤ b by omega)
        omega
      · exact h
      · have := Int.mul_le_mul_of_nonneg_left (show 1 ≤ q - q' by omega) (show 0 ≤ b by omega)
        omega
    omega
theorem tdiv_abs (a b : Int) (hb : 1 ≤ b) (B : Int) (ha : -B ≤ a ∧ a ≤ B) : -B ≤ a.tdiv b ∧ a.tdiv b ≤ B := by
  have h1 := Int.tmod_add_mul_tdiv a b
  have h5 := Int.tmod_lt_of_pos a (show 0 < b by omega)
  have h6 := Int.lt_tmod_of_pos a (show 0 < b by omega)
  have hq := quo_down a b (by omega)
  by_cases h : 0 ≤ a
  · rw [Int.tdiv_eq_ediv_of_nonneg h]
    have := Int.ediv_nonneg h (show 0 ≤ b by omega)
    have := Int.ediv_le_self b h
    omega
  · have e : a.tdiv b = -((-a) / b) := by rw [← Int.tdiv_eq_ediv_of_nonneg (by omega), Int.neg_tdiv]; omega
    have := Int.ediv_nonneg (show 0 ≤ -a by omega) (show 0 ≤ b by omega)
    have := Int.ediv_le_self b (show 0 ≤ -a by omega)
    omega
theorem mul_tdiv_bd (a b : Int) (hb : 1 ≤ b) (B : Int) (ha : -B ≤ a ∧ a ≤ B) : -B - b ≤ a.tdiv b * b ∧ a.tdiv b * b ≤ B + b := by
  have h1 := Int.tmod_add_mul_tdiv a b
  have h5 := Int.tmod_lt_of_pos a (show 0 < b by omega)
  have h6 := Int.lt_tmod_of_pos a (show 0 < b by omega)
  rw [Int.mul_comm] at h1
  omega
theorem quo_up (a b : Int) (hb : 0 < b) : a / b = if a < a.tdiv b * b then a.tdiv b - 1 else a.tdiv b := by
  rw [quo_down a b hb]
  have h1 := Int.tmod_add_mul_tdiv a b
  rw [Int.mul_comm] at h1
  by_cases h : a.tmod b < 0
  · rw [if_pos h, if_pos (by omega)]
  · rw [if_neg h, if_neg (by omega)]
theorem ediv_bd (a b : Int) (hb : 1 ≤ b) (B : Int) (ha : -B ≤ a ∧ a ≤ B) : -B - 1 ≤ a / b ∧ a / b ≤ B := by
  have h := tdiv_abs a b hb B ha
  rw [quo_down a b (by omega)]
  split <;> omega
end Go.Proofs.Ytlakcghdehdeiaa

/- A map to bools that a call makes, as the list of its keys that hold true. -/
namespace Go.Proofs.Ytlakcghdehdeiaa
open Go Go.Proofs Go.RowKit Go.Maps

/-- Block b is a map in which just the keys of L hold true; key x is the literal f x. -/
def SetM {κ : Type} [DecidableEq κ] (f : κ → Lit) (P : Program) (k e : TypeId) (w : World) (b : Nat) (L : List κ) : Prop :=
  ∃ D : DataW Unit, w.ownsMap P k (plainElem P e) b L.length D ∧ IsMap D ∧ ∀ x, D.atKey (f x) (.lit (.bool false)) = .lit (.bool (decide (x ∈ L)))

section
variable {κ : Type} [DecidableEq κ] {f : κ → Lit} {P : Program} {k e : TypeId} {w w' : World} {b : Nat} {L : List κ}
theorem SetM.kept {row : Option Nat} (h : SetM f P k e w b L) (hg : w.grownBy w' row) (hne : some b ≠ row) : SetM f P k e w' b L :=
  let ⟨D, h1, h2⟩ := h; ⟨D, h1.kept hg hne, h2⟩
theorem SetM.later (h : SetM f P k e w b L) (hb : Below w.heap.size w w') : SetM f P k e w' b L :=
  h.kept (row := none) ⟨hb.os, hb.tape, hb.output, hb.size, fun k hk _ => hb.block k hk⟩ (by simp)
theorem SetM.alloc (h : SetM f P k e w b L) (o : Obj) : SetM f P k e (w.alloc o) b L := h.later ((Below.refl _ _).alloc (Nat.le_refl _) _)
theorem SetM.lt (h : SetM f P k e w b L) : b < w.heap.size := let ⟨_, h1, _⟩ := h; h1.lt
theorem SetM.made (f : κ → Lit) (P : Program) (k e : TypeId) (w : World) : SetM f P k e (w.alloc (.map #[] 0)) w.heap.size [] :=
  ⟨.map [], World.ownsMap_made w P k _, ⟨[], rfl⟩, fun kl => by simp [DataW.atKey]⟩

theorem SetM.look {t : TypeId} (h : SetM f P k e w b L) (K : Keyed P k) (ht : P.underlying t = some (.map k e)) (he : P.underlying e = some .bool) (hz : (zeroValue e).run P w = .ok (.bool false) w) {key : Value} {x : κ} (hkey : keyOf P k key = some (f x)) :
    (Instr.lookup t (.map (some b)) key false).run P w = .ok (.bool (decide (x ∈ L))) w := by
  obtain ⟨D, h1, h2, h3⟩ := h
  obtain ⟨v, ps, hrun, hv⟩ := h1.lookup K ht hz (plainElem_bool (H := Unit) he false) hkey
  rw [h3 x] at hv
  have : v = .bool (decide (x ∈ L)) := by
    unfold plainElem at hv
    rw [he] at hv
    cases v <;> simp at hv
    rw [hv.1]
  rw [← this]; exact hrun

theorem wpList_look_set {t : TypeId} {ops : Array Oper} {rest : List Oper} {o : Oper} {a : Act} {Q : Exit → Act → World → Prop} (h : SetM f P k e w b L) (K : Keyed P k) (ht : P.underlying t = some (.map k e)) (he : P.underlying e = some .bool) (hz : (zeroValue e).run P w = .ok (.bool false) w)
    {key : Value} {x : κ} (hkey : keyOf P k key = some (f x)) (hg : o.guard = none) (m y : Operand) (hop : o.op = Op.lookup t m y false) (hm : a.eval m = .map (some b)) (hx : a.eval y = key)
    (hK : wpList P ops Q rest (a.put o.dst (.bool (decide (x ∈ L)))) w) : wpList P ops Q (o :: rest) a w := by
  refine wpList_plain hg fun K' hK' => ?_
  have hrun := h.look K ht he hz hkey
  unfold Oper.wp
  simp [execOp, hop, hm, hx, hrun, Result.andThen]
  exact hK' _ _ (by simpa using hK)

theorem wpList_put_set {t : TypeId} {ops : Array Oper} {rest : List Oper} {o : Oper} {a : Act} {Q : Exit → Act → World → Prop} (hf : ∀ x y, f x = f y → x = y) (hkl : ∀ x, WideAt.IsKeyLit (f x)) (h : SetM f P k e w b L) (K : Keyed P k) (ht : P.underlying t = some (.map k e)) (he : P.underlying e = some .bool)
    {key : Value} {x : κ} (hkey : keyOf P k key = some (f x)) (hn : L.length < maxLen) (hg : o.guard = none) (m y v : Operand) (hop : o.op = Op.mapUpdate t m y v) (hm : a.eval m = .map (some b)) (hx : a.eval y = key) (hv : a.eval v = .bool true)
    (hK : ∀ w', SetM f P k e w' b (x :: L) → w.grownBy w' (some b) → wpList P ops Q rest (a.put o.dst undef) w') : wpList P ops Q (o :: rest) a w := by
  obtain ⟨D, h1, h2, h3⟩ := h
  refine wpList_mapUpdate_own w hg m y v t hop k e K ht _ b L.length D hm h1 hn key (.bool true) (f x) hx hv hkey _ [] (plainElem_bool (H := Unit) he true) fun w' ho hgr => hK w' ⟨_, ho, ho.isMap, fun z => ?_⟩ hgr
  by_cases hk : z = x
  · subst hk
    rw [atKey_put_same h2 (hkl z)]
    simp
  · rw [atKey_put_other (fun h => hk (hf _ _ h)), h3 z]
    simp [hk]
end

/-- Keys that are strings, keys that are integers. -/
def strLit (s : List UInt8) : Lit := .string s
def intLit (n : Int) : Lit := .int .i64 n
theorem strLit_inj (x y : List UInt8) (h : strLit x = strLit y) : x = y := by unfold strLit at h; simpa using h
theorem intLit_inj (x y : Int) (h : intLit x = intLit y) : x = y := by unfold intLit at h; simpa using h
end Go.Proofs.Ytlakcghdehdeiaa

/- Leaf walks: errors of ranges and masses, first errors, quotients rounded down. -/
namespace Go.Proofs.Ytlakcghdehdeiaa
open Go Go.Proofs Go.RowKit

def farB (n : Int) : Bool := decide (999999999 < n) || decide (n < -999999999)
theorem farB_eq (n : Int) (b : Bool) (h : b = true ↔ (999999999 < n ∨ n < -999999999)) : b = farB n := by
  unfold farB; rw [Bool.eq_iff_iff, h]; simp only [Bool.or_eq_true, decide_eq_true_eq]
theorem ret_bool {b b' : Bool} (h : b = b') : Ending.returned (.bool b) = .returned (.bool b') := by rw [h]
theorem ret_int {a b : Int} (h : a = b) : Ending.returned (.int .i64 a) = .returned (.int .i64 b) := by rw [h]
set_option maxHeartbeats 400000 in
theorem far65 (n : Int) (w : World)  : Calls Try.prog 65 #[.int .i64 n] w fun e w' => e = .returned (.bool (farB n)) ∧ w = w' := by
  go_enter Try.func65, Try.ntmps65
  by_cases h : 999999999 < n <;> by_cases h2 : n < -999999999
  all_goals
    go_wp2
    go_ret
    exact ⟨ret_bool (farB_eq n _ (by constructor <;> intro _ <;> first | rfl | omega | contradiction)), rfl⟩
set_option maxHeartbeats 400000 in
theorem far87 (n : Int) (w : World)  : Calls Try.prog 87 #[.int .i64 n] w fun e w' => e = .returned (.bool (farB n)) ∧ w = w' := by
  go_enter Try.func87, Try.ntmps87
  by_cases h : 999999999 < n <;> by_cases h2 : n < -999999999
  all_goals
    go_wp2
    go_ret
    exact ⟨ret_bool (farB_eq n _ (by constructor <;> intro _ <;> first | rfl | omega | contradiction)), rfl⟩

def ckRange (r : Rg) : Int := if farB r.lo || farB r.hi then 3 else if r.hi < r.lo then 11 else 0
set_option maxHeartbeats 400000 in
theorem ckRange20 (r : Rg) (w : World) : Calls Try.prog 20 #[.agg #[.int .i64 r.lo, .int .i64 r.hi]] w (Ret (.int .i64 (ckRange r)) w) := by
  unfold ckRange
  go_enter Try.func20, Try.ntmps20
  cases h1 : farB r.lo <;> cases h2 : farB r.hi <;> by_cases h3 : r.hi < r.lo
  all_goals go_wp2_with (go_at_call 65; refine (far65 _ _).mono ?_; rintro e w' ⟨rfl, rfl⟩)
  all_goals go_ret
  all_goals exact ⟨by simp [*], (Below.refl _ _).alloc (Nat.le_refl _) _⟩
set_option maxHeartbeats 400000 in
theorem ckRange54 (r : Rg) (w : World) : Calls Try.prog 54 #[.agg #[.int .i64 r.lo, .int .i64 r.hi]] w (Ret (.int .i64 (ckRange r)) w) := by
  unfold ckRange
  go_enter Try.func54, Try.ntmps54
  cases h1 : farB r.lo
  rotate_left
  cases h2 : farB r.hi
  by_cases h3 : r.hi < r.lo
  all_goals go_wp2_with (go_at_call 87; refine (far87 _ _).mono ?_; rintro e w' ⟨rfl, rfl⟩)
  all_goals go_ret
  all_goals exact ⟨by simp [*], (Below.refl _ _).alloc (Nat.le_refl _) _⟩

def ckMass (r : Rg) : Int := if ckRange r = 0 then (if r.lo < 0 then 3 else 0) else ckRange r
set_option maxHeartbeats 400000 in
theorem ckMass55 (x : Rg) (w : World) : Calls Try.prog 55 #[.agg #[.int .i64 x.lo, .int .i64 x.hi]] w (Ret (.int .i64 (ckMass x)) w) := by
  unfold ckMass
  go_enter Try.func55, Try.ntmps55
  have H := ckRange20 x
  generalize ckRange x = r at *
  have H' := Lib.hid H
  clear H
  by_cases h1 : r = 0 <;> by_cases h3 : x.lo < 0
  all_goals (go_wp2_with (go_at_call 20; refine (H'.out _).mono ?_; rintro e w' ⟨rfl, hb⟩; obtain ⟨hc, hf⟩ := bcell hb))
  all_goals go_ret
  all_goals exact Ret.mk (by simp [*]) (((Below.refl _ _).alloc (Nat.le_refl _) _).trans (hb.mono (by simp)))
set_option maxHeartbeats 400000 in
theorem ckMass70 (x : Rg) (w : World) : Calls Try.prog 70 #[.agg #[.int .i64 x.lo, .int .i64 x.hi]] w (Ret (.int .i64 (ckMass x)) w) := by
  unfold ckMass
  go_enter Try.func70, Try.ntmps70
  have H := ckRange54 x
  generalize ckRange x = r at *
  have H' := Lib.hid H
  clear H
  by_cases h1 : r = 0 <;> by_cases h3 : x.lo < 0
  all_goals (go_wp2_with (go_at_call 54; refine (H'.out _).mono ?_; rintro e w' ⟨rfl, hb⟩; obtain ⟨hc, hf⟩ := bcell hb))
  all_goals go_ret
  all_goals exact Ret.mk (by simp [*]) (((Below.refl _ _).alloc (Nat.le_refl _) _).trans (hb.mono (by simp)))

/-- The first that is not 0. -/
def firstNZ : List Int → Int
  | [] => 0
  | x :: l => if x = 0 then firstNZ l else x
theorem firstNZ_drop (l : List Int) (k : Nat) (h : k < l.length) : firstNZ (l.drop k) = if l[k] = 0 then firstNZ (l.drop (k + 1)) else l[k] := by
  rw [List.drop_eq_getElem_cons h]; rfl
set_option maxHeartbeats 400000 in
theorem first63 (v : Value) (l : List Int) (w : World) (hv : Sl encI 1 w w.heap.size v l) : Calls Try.prog 63 #[v] w fun e w' => e = .returned (.int .i64 (firstNZ l)) ∧ w = w' := by
  obtain ⟨a, c, rfl, hlen, hA⟩ := hv
  have hA := Lib.hid hA
  generalize hR : firstNZ l = R
  go_enter Try.func63, Try.ntmps63
  go_wp2_with fail
  go_loop [7] (fun i => ∃ k : Nat, k ≤ l.length ∧ i = .int .i64 k ∧ firstNZ (l.drop k) = R) (fun i => l.length - (intOf i).toNat)
  case atStart => exact ⟨0, by omega, rfl, hR⟩
  case round =>
    obtain ⟨k, hk, rfl, hrel⟩ := hrel
    have HR := Lib.hid hrel
    clear hrel hR
    by_cases hlt : k < l.length
    · obtain ⟨b, off, rfl, hbb, hcells⟩ := hA.out (by omega)
      have hd := Lib.hid (firstNZ_drop l k hlt)
      have c0 := (hcells k hlt).c1
      rw [Nat.mul_one] at c0
      clear hcells hA
      generalize l[k] = x at *
      by_cases hr : x = 0
      all_goals go_wp2_with fail
      · go_round
        case rel => exact ⟨k + 1, by omega, by go_num, by rw [← HR.out, hd.out, if_pos hr]⟩
        case measure => simp [intOf]; omega
      · go_ret
        exact ⟨by have := HR.out; rw [hd.out, if_neg hr] at this; simp [this], rfl⟩
    · obtain rfl : l.length = k := by omega
      go_wp2_with fail
      go_ret
      exact ⟨by have := HR.out; simp [firstNZ] at this; simp [this], rfl⟩
set_option maxHeartbeats 400000 in
theorem first18 (v : Value) (l : List Int) (w : World) (hv : Sl encI 1 w w.heap.size v l) : Calls Try.prog 18 #[v] w fun e w' => e = .returned (.int .i64 (firstNZ l)) ∧ w = w' := by
  obtain ⟨a, c, rfl, hlen, hA⟩ := hv
  have hA := Lib.hid hA
  generalize hR : firstNZ l = R
  go_enter Try.func18, Try.ntmps18
  go_wp2_with fail
  go_loop [3] (fun i => ∃ k : Nat, k ≤ l.length ∧ i = .int .i64 k ∧ firstNZ (l.drop k) = R) (fun i => l.length - (intOf i).toNat)
  case atStart => exact ⟨0, by omega, rfl, hR⟩
  case round =>
    obtain ⟨k, hk, rfl, hrel⟩ := hrel
    have HR := Lib.hid hrel
    clear hrel hR
    by_cases hlt : k < l.length
    · obtain ⟨b, off, rfl, hbb, hcells⟩ := hA.out (by omega)
      have hd := Lib.hid (firstNZ_drop l k hlt)
      have c0 := (hcells k hlt).c1
      rw [Nat.mul_one] at c0
      clear hcells hA
      generalize l[k] = x at *
      by_cases hr : x = 0
      all_goals go_wp2_with fail
      · go_round
        case rel => exact ⟨k + 1, by omega, by go_num, by rw [← HR.out, hd.out, if_pos hr]⟩
        case measure => simp [intOf]; omega
      · go_ret
        exact ⟨by have := HR.out; rw [hd.out, if_neg hr] at this; simp [this], rfl⟩
    · obtain rfl : l.length = k := by omega
      go_wp2_with fail
      go_ret
      exact ⟨by have := HR.out; simp [firstNZ] at this; simp [this], rfl⟩
/-- An error where a condition holds. -/
def whenB (h : Bool) (e : Int) : Int := if h then e else 0
set_option maxHeartbeats 400000 in
theorem when27 (h : Bool) (n : Int) (w : World) : Calls Try.prog 27 #[.bool h, .int .i64 n] w fun e w' => e = .returned (.int .i64 (whenB h n)) ∧ w = w' := by
  unfold whenB
  go_enter Try.func27, Try.ntmps27
  cases h
  all_goals go_wp2
  all_goals go_ret
  all_goals exact ⟨by simp, rfl⟩

set_option maxHeartbeats 400000 in
theorem floor64 (a b : Int) (w : World) (ha : -1000000000000000 ≤ a ∧ a ≤ 1000000000000000) (hb : 1 ≤ b ∧ b ≤ 1000) :
    Calls Try.prog 64 #[.int .i64 a, .int .i64 b] w fun e w' => e = .returned (.int .i64 (a / b)) ∧ w = w' := by
  have h1 := tdiv_abs a b hb.1 _ ha
  have H := Lib.hid (quo_down a b (by omega))
  by_cases h : a.tmod b < 0
  · rw [if_pos h] at H
    go_enter Try.func64, Try.ntmps64
    go_wp2
    go_ret
    exact ⟨ret_int H.out.symm, rfl⟩
  · rw [if_neg h] at H
    go_enter Try.func64, Try.ntmps64
    go_wp2
    go_ret
    exact ⟨ret_int H.out.symm, rfl⟩
set_option maxHeartbeats 400000 in
theorem floor66 (a b : Int) (w : World) (ha : -1000000000000000 ≤ a ∧ a ≤ 1000000000000000) (hb : 1 ≤ b ∧ b ≤ 1000) :
    Calls Try.prog 66 #[.int .i64 a, .int .i64 b] w fun e w' => e = .returned (.int .i64 (a / b)) ∧ w = w' := by
  have h1 := tdiv_abs a b hb.1 _ ha
  have h2 := mul_tdiv_bd a b hb.1 _ ha
  have H := Lib.hid (quo_up a b (by omega))
  by_cases h : a < a.tdiv b * b
  · rw [if_pos h] at H
    go_enter Try.func66, Try.ntmps66
    go_wp2
    go_ret
    exact ⟨ret_int H.out.symm, rfl⟩
  · rw [if_neg h] at H
    go_enter Try.func66, Try.ntmps66
    go_wp2
    go_ret
    exact ⟨ret_int H.out.symm, rfl⟩
end Go.Proofs.Ytlakcghdehdeiaa

/- Walks over lists of ranges. -/
namespace Go.Proofs.Ytlakcghdehdeiaa
open Go Go.Proofs Go.RowKit

def ckMassesL : List Rg → Int
  | [] => 0
  | r :: l => if ckMass r = 0 then ckMassesL l else ckMass r
def ckMasses (l : List Rg) : Int := if l.length = 0 then 2 else if 256 < l.length then 5 else ckMassesL l
theorem ckMassesL_drop (l : List Rg) (k : Nat) (h : k < l.length) : ckMassesL (l.drop k) = if ckMass l[k] = 0 then ckMassesL (l.drop (k+1)) else ckMass l[k] := by
  rw [List.drop_eq_getElem_cons h]; rfl
theorem eq0_false {n : Nat} (h : ¬ n = 0) : ((n : Int) == 0) = false := beq_eq_false_iff_ne.2 (by omega)

set_option maxHeartbeats 400000 in
theorem ckMasses57 (v : Value) (l : List Rg) (w : World) (hv : Sl Rg.enc 2 w w.heap.size v l) :
    Calls Try.prog 57 #[v] w (Ret (.int .i64 (ckMasses l)) w) := by
  obtain ⟨a, c, rfl, hlen, hA⟩ := hv
  generalize hR : ckMasses l = R
  unfold ckMasses at hR
  have HR := Lib.hid hR
  clear hR
  have H := Lib.hid ckMass55
  have hA' := Lib.hid hA
  clear hA
  go_enter Try.func57, Try.ntmps57
  by_cases h0 : l.length = 0
  · go_wp2_with fail
    go_ret
    have := HR.out
    exact Ret.mk (by simp_all) (Below.refl _ _)
  have h0' := eq0_false h0
  by_cases h1 : 256 < l.length
  · go_wp2_with fail
    go_ret
    have := HR.out
    exact Ret.mk (by simp_all) (Below.refl _ _)
  go_wp2_with fail
  have HR1 : Hid (ckMassesL l = R) := by have := HR.out; rw [if_neg h0, if_neg h1] at this; exact this
  clear HR
  go_loopw [3] (fun i wr => ∃ k : Nat, k ≤ l.length ∧ i = .int .i64 k ∧ Below w.heap.size w wr ∧ ckMassesL (l.drop k) = R) (fun i _ => l.length - (intOf i).toNat)
  case atStart => exact ⟨0, by omega, rfl, Below.refl _ _, HR1.out⟩
  case round =>
    obtain ⟨k, hk, rfl, hb, hrel⟩ := hrel
    have HR := Lib.hid hrel
    clear hrel HR1
    by_cases hlt : k < l.length
    · obtain ⟨b, off, rfl, hbb, hcells⟩ := hA'.out (by omega)
      have hd := Lib.hid (ckMassesL_drop l k hlt)
      obtain ⟨c0, c1⟩ := ((hcells k hlt).below hb hbb).c2
      clear hcells hA'
      generalize l[k] = x at *
      have HX := H.out x
      generalize ckMass x = r at *
      have HX1 := Lib.hid HX
      clear HX
      by_cases hr : r = 0
      all_goals go_wp2_with (go_at_call 55; refine (HX1.out _).mono ?_; rintro e w' ⟨rfl, hb1⟩)
      · go_roundw
        case rel => exact ⟨k + 1, by omega, by go_num, hb.trans (hb1.mono hb.size), by rw [← HR.out, hd.out, if_pos hr]⟩
        case measure => simp [intOf]; omega
      · go_ret
        exact Ret.mk (by have := HR.out; rw [hd.out, if_neg hr] at this; simp [this]) (hb.trans (hb1.mono hb.size))
    · obtain rfl : l.length = k := by omega
      go_wp2_with fail
      go_ret
      exact Ret.mk (by have := HR.out; simp [ckMassesL] at this; simp [this]) hb

set_option maxHeartbeats 400000 in
theorem ckMasses86 (v : Value) (l : List Rg) (w : World) (hv : Sl Rg.enc 2 w w.heap.size v l) :
    Calls Try.prog 86 #[v] w (Ret (.int .i64 (ckMasses l)) w) := by
  obtain ⟨a, c, rfl, hlen, hA⟩ := hv
  generalize hR : ckMasses l = R
  unfold ckMasses at hR
  have HR := Lib.hid hR
  clear hR
  have H := Lib.hid ckMass70
  have hA' := Lib.hid hA
  clear hA
  go_enter Try.func86, Try.ntmps86
  by_cases h0 : l.length = 0
  · go_wp2_with fail
    go_ret
    have := HR.out
    exact Ret.mk (by simp_all) (Below.refl _ _)
  have h0' := eq0_false h0
  by_cases h1 : 256 < l.length
  · go_wp2_with fail
    go_ret
    have := HR.out
    exact Ret.mk (by simp_all) (Below.refl _ _)
  go_wp2_with fail
  have HR1 : Hid (ckMassesL l = R) := by have := HR.out; rw [if_neg h0, if_neg h1] at this; exact this
  clear HR
  go_loopw [16] (fun i wr => ∃ k : Nat, k ≤ l.length ∧ i = .int .i64 k ∧ Below w.heap.size w wr ∧ ckMassesL (l.drop k) = R) (fun i _ => l.length - (intOf i).toNat)
  case atStart => exact ⟨0, by omega, rfl, Below.refl _ _, HR1.out⟩
  case round =>
    obtain ⟨k, hk, rfl, hb, hrel⟩ := hrel
    have HR := Lib.hid hrel
    clear hrel HR1
    by_cases hlt : k < l.length
    · obtain ⟨b, off, rfl, hbb, hcells⟩ := hA'.out (by omega)
      have hd := Lib.hid (ckMassesL_drop l k hlt)
      obtain ⟨c0, c1⟩ := ((hcells k hlt).below hb hbb).c2
      clear hcells hA'
      generalize l[k] = x at *
      have HX := H.out x
      generalize ckMass x = r at *
      have HX1 := Lib.hid HX
      clear HX
      by_cases hr : r = 0
      all_goals go_wp2_with (go_at_call 70; refine (HX1.out _).mono ?_; rintro e w' ⟨rfl, hb1⟩)
      · go_roundw
        case rel => exact ⟨k + 1, by omega, by go_num, (hb.alloc hb.size _).trans (hb1.mono (by have := hb.size; simp; omega)), by rw [← HR.out, hd.out, if_pos hr]⟩
        case measure => simp [intOf]; omega
      · go_ret
        exact Ret.mk (by have := HR.out; rw [hd.out, if_neg hr] at this; simp [this]) ((hb.alloc hb.size _).trans (hb1.mono (by have := hb.size; simp; omega)))
    · obtain rfl : l.length = k := by omega
      go_wp2_with fail
      go_ret
      exact Ret.mk (by have := HR.out; simp [ckMassesL] at this; simp [this]) hb

end Go.Proofs.Ytlakcghdehdeiaa

/- Walks: equal ranges, net weights. -/
namespace Go.Proofs.Ytlakcghdehdeiaa
open Go Go.Proofs Go.RowKit

def z : Rg := ⟨0, 0⟩
def alikeB (x : Rg) (e bad : Int) (y : Rg) : Bool := if bad ≠ 0 then x = z ∧ e = bad else e = 0 ∧ x = y
set_option maxHeartbeats 400000 in
theorem alike33 (x y : Rg) (e bad : Int) (w : World) : Calls Try.prog 33 #[.agg #[.int .i64 x.lo, .int .i64 x.hi], .int .i64 e, .int .i64 bad, .agg #[.int .i64 y.lo, .int .i64 y.hi]] w
    (Ret (.bool (alikeB x e bad y)) w) := by
  obtain ⟨a, b⟩ := x
  obtain ⟨c, d⟩ := y
  dsimp only
  by_cases h : bad = 0
  all_goals
    go_enter Try.func33, Try.ntmps33
    go_wp2_with fail
    all_goals go_ret
    all_goals refine Ret.mk (congrArg Value.bool ?_) (((Below.refl _ _).alloc (Nat.le_refl _) _).alloc (by simp) _)
    all_goals simp_all [alikeB, z]
    all_goals rw [Bool.eq_iff_iff]; simp

theorem ckRange_0 {r : Rg} (h : ckRange r = 0) : -999999999 ≤ r.lo ∧ r.lo ≤ r.hi ∧ r.hi ≤ 999999999 := by
  unfold ckRange farB at h
  by_cases h1 : 999999999 < r.lo
  · simp [h1] at h
  by_cases h2 : r.lo < -999999999
  · simp [h2] at h
  by_cases h3 : 999999999 < r.hi
  · simp [h3] at h
  by_cases h4 : r.hi < r.lo
  · simp [h4] at h
    split at h <;> simp at h
  omega
theorem ckMass_0 {r : Rg} (h : ckMass r = 0) : 0 ≤ r.lo ∧ r.lo ≤ r.hi ∧ r.hi ≤ 999999999 := by
  unfold ckMass at h
  split at h
  · rename_i h1
    have := ckRange_0 h1
    split at h <;> simp at h
    omega
  · exact absurd h ‹_›
theorem firstNZ_2 {a b : Int} : firstNZ [a, b] = 0 ↔ a = 0 ∧ b = 0 := by
  simp only [firstNZ]
  by_cases h : a = 0 <;> by_cases h2 : b = 0 <;> simp [h, h2]

def netE (g t : Rg) : Int := firstNZ [ckMass g, ckMass t]
def netR (g t : Rg) : Rg := ⟨max 0 (g.lo - t.hi), g.hi - t.lo⟩
def netF (g t : Rg) : Rg := if netE g t ≠ 0 ∨ g.hi < t.lo then z else netR g t
def netB (g t : Rg) : Int := if netE g t ≠ 0 then netE g t else if g.hi < t.lo then 15 else 0
set_option maxHeartbeats 400000 in
theorem net36 (g t : Rg) (w : World) : Calls Try.prog 36 #[.agg #[.int .i64 g.lo, .int .i64 g.hi], .agg #[.int .i64 t.lo, .int .i64 t.hi]] w
    (Ret (.tuple #[.agg #[.int .i64 (netF g t).lo, .int .i64 (netF g t).hi], .int .i64 (netB g t)]) w) := by
  generalize hRF : netF g t = RF
  generalize hRB : netB g t = RB
  have HRF := Lib.hid hRF
  clear hRF
  have HRB := Lib.hid hRB
  clear hRB
  go_enter Try.func36, Try.ntmps36
  go_wp2_with fail
  refine wp_region_head_later 4 (by kernel_rfl) (by kernel_rfl) ?_
  simp only [List.take_succ_cons, List.take_zero, List.drop_succ_cons, List.drop_zero]
  repeat go_big_quiet_step ((go_at_call 70; exact Calls.later (ckMass70 ⟨_, _⟩ _)))
  refine wpQuiet_nil ?_
  rintro w1 ⟨⟨_, hb1⟩, rfl⟩
  obtain ⟨c0, c1, c2, f0, f1, f2, z0, z1, z2⟩ := boxes3 (w := w) (by simp) hb1
  have hB : Below w.heap.size w w1 := (((Below.refl w.heap.size w).alloc (Nat.le_refl _) _).alloc (by simp) _ |>.alloc (by simp; omega) _).trans (hb1.mono (by simp; omega))
  have HB := Lib.hid hB
  clear hB hb1
  generalize hE : firstNZ [ckMass g, ckMass t] = E
  have hfirst := first63 (.slice (some ⟨w1.heap.size, 0, none⟩) 2 2) [ckMass g, ckMass t] _ (Sl.lit encI_len _ w1 #[.int .i64 (ckMass g), .int .i64 (ckMass t)] 27 2 rfl rfl (by simp))
  rw [hE] at hfirst
  have HF := Lib.hid hfirst
  clear hfirst
  have hz : E = 0 → 0 ≤ g.lo ∧ g.hi ≤ 999999999 ∧ g.lo ≤ g.hi ∧ 0 ≤ t.lo ∧ t.hi ≤ 999999999 ∧ t.lo ≤ t.hi := by
    rintro rfl
    have := firstNZ_2.1 hE
    have h1 := ckMass_0 this.1
    have h2 := ckMass_0 this.2
    omega
  have HE := Lib.hid (show netE g t = E from hE)
  clear hE
  by_cases h0 : E = 0
  · have hz := hz h0
    subst h0
    by_cases h1 : g.hi < t.lo
    · go_wp2_with (go_at_call 63; refine HF.out.mono ?_; rintro e w' ⟨rfl, rfl⟩)
      refine bodyPost_ret (v := .tuple #[.agg #[.int .i64 0, .int .i64 0], .int .i64 15]) (by simp [results, Try.results36, go_sem, *]) rfl ?_
      refine Ret.mk ?_ ?_
      · rw [← HRF.out, ← HRB.out]
        simp [netF, netB, HE.out, h1, z]
      · repeat (first | exact HB.out | exact Below.refl _ _ | refine Below.setCell ?_ (by first | (dsimp only; omega) | (simp; done) | (simp; omega)) _ | refine Below.alloc ?_ (by first | omega | (simp; done) | (simp; omega)) _ | refine Below.drew ?_)
    · go_wp2_with (go_at_call 63; refine HF.out.mono ?_; rintro e w' ⟨rfl, rfl⟩)
      all_goals
        refine bodyPost_ret (v := .tuple #[.agg #[.int .i64 (netR g t).lo, .int .i64 (netR g t).hi], .int .i64 0]) (by simp [results, Try.results36, go_sem, netR, *] <;> omega) rfl ?_
        refine Ret.mk ?_ ?_
        · rw [← HRF.out, ← HRB.out]
          have h1 : ¬ g.hi < t.lo := by omega
          simp [netF, netB, HE.out, h1]
        · repeat (first | exact HB.out | exact Below.refl _ _ | refine Below.setCell ?_ (by first | (dsimp only; omega) | (simp; done) | (simp; omega)) _ | refine Below.alloc ?_ (by first | omega | (simp; done) | (simp; omega)) _ | refine Below.drew ?_)
  · clear hz
    go_wp2_with (go_at_call 63; refine HF.out.mono ?_; rintro e w' ⟨rfl, rfl⟩)
    refine bodyPost_ret (v := .tuple #[.agg #[.int .i64 0, .int .i64 0], .int .i64 E]) (by simp [results, Try.results36, go_sem, *]) rfl ?_
    refine Ret.mk ?_ ?_
    · rw [← HRF.out, ← HRB.out]
      simp [netF, netB, HE.out, h0, z]
    · repeat (first | exact HB.out | exact Below.refl _ _ | refine Below.setCell ?_ (by first | (dsimp only; omega) | (simp; done) | (simp; omega)) _ | refine Below.alloc ?_ (by first | omega | (simp; done) | (simp; omega)) _ | refine Below.drew ?_)

set_option maxHeartbeats 400000 in
theorem net56 (g t : Rg) (w : World) (hg : 0 ≤ g.lo ∧ g.hi ≤ 999999999 ∧ g.lo ≤ g.hi) (ht : 0 ≤ t.lo ∧ t.hi ≤ 999999999 ∧ t.lo ≤ t.hi) : Calls Try.prog 56 #[.agg #[.int .i64 g.lo, .int .i64 g.hi], .agg #[.int .i64 t.lo, .int .i64 t.hi]] w
    (Ret (.tuple #[.agg #[.int .i64 (netR g t).lo, .int .i64 (netR g t).hi], .bool (decide (0 ≤ (netR g t).hi))]) w) := by
  go_enter Try.func56, Try.ntmps56
  go_wp2_with fail
  all_goals
    go_region
    all_goals go_wp2_with fail
  all_goals
    refine bodyPost_ret (v := .tuple #[.agg #[.int .i64 (netR g t).lo, .int .i64 (netR g t).hi], .bool (decide (0 ≤ (netR g t).hi))]) (by simp [results, Try.results56, go_sem, netR, *] <;> omega) rfl ?_
    refine Ret.mk rfl ?_
    repeat (first | exact Below.refl _ _ | exact Below.refl _ _ | refine Below.setCell ?_ (by first | (dsimp only; omega) | (simp; done) | (simp; omega)) _ | refine Below.alloc ?_ (by first | omega | (simp; done) | (simp; omega)) _ | refine Below.drew ?_)
end Go.Proofs.Ytlakcghdehdeiaa

/- Walks: sums of masses, common masses. -/
namespace Go.Proofs.Ytlakcghdehdeiaa
open Go Go.Proofs Go.RowKit

def dr : List Rg → Rg
  | [] => z
  | r :: l => ⟨r.lo + (dr l).lo, r.hi + (dr l).hi⟩
theorem dr_snoc (l : List Rg) (r : Rg) : dr (l ++ [r]) = ⟨(dr l).lo + r.lo, (dr l).hi + r.hi⟩ := by
  induction l with
  | nil => simp [dr, z]
  | cons x l ih => simp only [List.cons_append, dr, ih]; simp only [Rg.mk.injEq]; omega
theorem take_snoc {α : Type} (l : List α) (k : Nat) (h : k < l.length) : l.take (k + 1) = l.take k ++ [l[k]] := by
  rw [List.take_succ_eq_append_getElem h]
def massOk (r : Rg) : Prop := 0 ≤ r.lo ∧ r.lo ≤ r.hi ∧ r.hi ≤ 999999999
theorem dr_bd (l : List Rg) (h : ∀ r ∈ l, massOk r) : 0 ≤ (dr l).lo ∧ (dr l).lo ≤ (dr l).hi ∧ (dr l).hi ≤ 999999999 * l.length := by
  induction l with
  | nil => simp [dr, z]
  | cons x l ih =>
    have h1 := ih fun r hr => h r (List.mem_cons_of_mem _ hr)
    have h2 := h x (by simp)
    unfold massOk at h2
    simp only [dr, List.length_cons]
    omega
theorem ckMassesL_0 {l : List Rg} (h : ckMassesL l = 0) : ∀ r ∈ l, massOk r := by
  induction l with
  | nil => simp
  | cons x l ih =>
    unfold ckMassesL at h
    split at h
    · rename_i h1
      intro r hr
      rcases List.mem_cons.1 hr with rfl | hr
      · exact ckMass_0 h1
      · exact ih h r hr
    · exact absurd h ‹_›
theorem ckMasses_0 {l : List Rg} (h : ckMasses l = 0) : 0 < l.length ∧ l.length ≤ 256 ∧ ∀ r ∈ l, massOk r := by
  unfold ckMasses at h
  split at h
  · simp at h
  · split at h
    · simp at h
    · exact ⟨by omega, by omega, ckMassesL_0 h⟩

set_option maxHeartbeats 400000 in
theorem drafts58 (v : Value) (l : List Rg) (w : World) (hv : Sl Rg.enc 2 w w.heap.size v l) (h256 : l.length ≤ 256) (hok : ∀ r ∈ l, massOk r) :
    Calls Try.prog 58 #[v] w (Ret (.agg #[.int .i64 (dr l).lo, .int .i64 (dr l).hi]) w) := by
  obtain ⟨a, c, rfl, hlen, hA⟩ := hv
  have HA := Lib.hid hA
  clear hA
  have HO := Lib.hid hok
  clear hok
  go_enter Try.func58, Try.ntmps58
  go_wp2_with fail
  go_loopw [4] (fun i wr => ∃ k : Nat, k ≤ l.length ∧ i = .int .i64 k ∧ Below w.heap.size w wr ∧ Box wr w.heap.size 24 [.int .i64 0, .int .i64 0] ∧ Box wr (w.heap.size + 1) 24 [.int .i64 (dr (l.take k)).lo, .int .i64 (dr (l.take k)).hi]) (fun i _ => l.length - (intOf i).toNat)
  case atStart =>
    refine ⟨0, by omega, rfl, ?_, ?_, ?_⟩
    · repeat (first | exact Below.refl _ _ | exact Below.refl _ _ | refine Below.setCell ?_ (by first | (dsimp only; omega) | (simp; done) | (simp; omega)) _ | refine Below.alloc ?_ (by first | omega | (simp; done) | (simp; omega)) _ | refine Below.drew ?_)
    · exact (Box.newAt _ _ _ rfl).alloc _
    · exact Box.newAt _ _ _ (by simp)
  case round =>
    obtain ⟨k, hk, rfl, hb, hx0, hx1⟩ := hrel
    by_cases hlt : k < l.length
    · obtain ⟨b, off, rfl, hbb, hcells⟩ := HA.out (by omega)
      obtain ⟨c0, c1⟩ := ((hcells k hlt).below hb hbb).c2
      clear hcells HA
      obtain ⟨d0, d1, df, dz⟩ := hx1.v2
      have hd := Lib.hid (show dr (l.take (k + 1)) = ⟨(dr (l.take k)).lo + l[k].lo, (dr (l.take k)).hi + l[k].hi⟩ by rw [take_snoc l k hlt, dr_snoc])
      have bd := dr_bd (l.take k) (fun r hr => HO.out r (List.mem_of_mem_take hr))
      have bx := HO.out l[k] (List.getElem_mem hlt)
      have bl : (l.take k).length ≤ k := List.length_take_le _ _
      generalize l[k] = x at *
      generalize dr (l.take k) = s at *
      obtain ⟨b1, b2, b3⟩ := bx
      go_wp2_with fail
      go_region
      all_goals go_wp2_with fail
      go_roundw
      case rel =>
        refine ⟨k + 1, by omega, by go_num, ?_, ?_, ?_⟩
        · repeat (first | exact hb | exact Below.refl _ _ | refine Below.setCell ?_ (by first | (dsimp only; omega) | (simp; done) | (simp; omega)) _ | refine Below.alloc ?_ (by first | omega | (simp; done) | (simp; omega)) _ | refine Below.drew ?_)
        · exact (hx0.other _ (by simp)).other _ (by simp)
        · rw [hd.out]; exact (hx1.set 0 _).set 1 _
      case measure => simp [intOf]; omega
    · obtain rfl : l.length = k := by omega
      rw [List.take_length] at hx1
      obtain ⟨d0, d1, df, dz⟩ := hx1.v2
      obtain ⟨e0, e1, ef, ez⟩ := hx0.v2
      go_wp2_with fail
      refine bodyPost_ret (v := .agg #[.int .i64 (dr l).lo, .int .i64 (dr l).hi]) (by simp [results, Try.results58, go_sem, *]) rfl ?_
      refine Ret.mk rfl ?_
      repeat (first | exact hb | exact Below.refl _ _ | refine Below.setCell ?_ (by first | (dsimp only; omega) | (simp; done) | (simp; omega)) _ | refine Below.alloc ?_ (by first | omega | (simp; done) | (simp; omega)) _ | refine Below.drew ?_)

def drE (l : List Rg) : Int := if ckMasses l ≠ 0 then ckMasses l else if 999999999 < (dr l).hi then 4 else 0
def drR (l : List Rg) : Rg := if drE l = 0 then dr l else z
set_option maxHeartbeats 400000 in
theorem drafts52 (v : Value) (l : List Rg) (w : World) (hv : Sl Rg.enc 2 w w.heap.size v l) :
    Calls Try.prog 52 #[v] w (Ret (.tuple #[.agg #[.int .i64 (drR l).lo, .int .i64 (drR l).hi], .int .i64 (drE l)]) w) := by
  obtain ⟨a, c, hve, hlen, hA⟩ := id hv
  generalize hRF : drR l = RF
  generalize hRB : drE l = RB
  have HRF := Lib.hid hRF
  clear hRF
  have HRB := Lib.hid hRB
  clear hRB
  have HA := Lib.hid hA
  clear hA
  have H0 := Lib.hid (@ckMasses_0 l)
  have hC := ckMasses86 v l (w.alloc (.cells #[.int .i64 0, .int .i64 0] 24)) (hv.later ((Below.refl _ _).alloc (Nat.le_refl _) _))
  subst hve
  obtain ⟨E, hE⟩ : ∃ E, ckMasses l = E := ⟨_, rfl⟩
  rw [hE] at hC H0
  have HE := Lib.hid hE
  clear hE
  have HC := Lib.hid hC
  clear hC
  clear hv
  go_enter Try.func52, Try.ntmps52
  by_cases h0 : E = 0
  rotate_left
  · go_wp2_with (go_at_call 86; refine HC.out.mono ?_; rintro e w1 ⟨rfl, hb1⟩; obtain ⟨c0, f0, z0⟩ := boxes1 (w := w) (by simp) hb1)
    refine bodyPost_ret (v := .tuple #[.agg #[.int .i64 0, .int .i64 0], .int .i64 E]) (by simp [results, Try.results52, go_sem, *]) rfl ?_
    refine Ret.mk ?_ ?_
    · rw [← HRF.out, ← HRB.out]
      have := HE.out
      simp [drR, drE, this, h0, z]
    · have hB : Below w.heap.size w w1 := ((Below.refl _ _).alloc (Nat.le_refl _) _).trans (hb1.mono (by simp))
      repeat (first | exact hB | exact Below.refl _ _ | refine Below.setCell ?_ (by first | (dsimp only; omega) | (simp; done) | (simp; omega)) _ | refine Below.alloc ?_ (by first | omega | (simp; done) | (simp; omega)) _ | refine Below.drew ?_)
  subst h0
  obtain ⟨hl0, hl, hok⟩ := H0.out rfl
  clear H0
  have HO := Lib.hid hok
  clear hok
  have hz : ∀ w1 : World, Below (w.alloc (.cells #[.int .i64 0, .int .i64 0] 24)).heap.size (w.alloc (.cells #[.int .i64 0, .int .i64 0] 24)) w1 → Below w.heap.size w w1 := fun _ h => ((Below.refl _ _).alloc (Nat.le_refl _) _).trans (h.mono (by simp))
  have HZ := Lib.hid hz
  clear hz
  go_wp2_with (go_at_call 86; refine HC.out.mono ?_; rintro e w1 ⟨rfl, hb1⟩; obtain ⟨c0, f0, z0⟩ := boxes1 (w := w) (by simp) hb1; have hB := HZ.out _ hb1)
  have hx := (Box.newAt w #[.int .i64 0, .int .i64 0] 24 rfl).later hb1
  clear HC HZ hb1
  go_loopw [16] (fun i wr => ∃ k : Nat, k ≤ l.length ∧ i = .int .i64 k ∧ Below w.heap.size w wr ∧ Box wr w.heap.size 24 [.int .i64 0, .int .i64 0] ∧ Box wr w1.heap.size 24 [.int .i64 (dr (l.take k)).lo, .int .i64 (dr (l.take k)).hi]) (fun i _ => l.length - (intOf i).toNat)
  case atStart =>
    refine ⟨0, by omega, rfl, ?_, ?_, ?_⟩
    · repeat (first | exact hB | exact Below.refl _ _ | refine Below.setCell ?_ (by first | (dsimp only; omega) | (simp; done) | (simp; omega)) _ | refine Below.alloc ?_ (by first | omega | (simp; done) | (simp; omega)) _ | refine Below.drew ?_)
    · exact hx.alloc _
    · exact Box.newAt _ _ _ rfl
  case round =>
    obtain ⟨k, hk, rfl, hb, hx0, hx1⟩ := hrel
    clear c0 f0 hB hx
    by_cases hlt : k < l.length
    · obtain ⟨b, off, rfl, hbb, hcells⟩ := HA.out (by omega)
      obtain ⟨c0, c1⟩ := ((hcells k hlt).below hb hbb).c2
      clear hcells HA
      obtain ⟨d0, d1, df, dz⟩ := hx1.v2
      have hd := Lib.hid (show dr (l.take (k + 1)) = ⟨(dr (l.take k)).lo + l[k].lo, (dr (l.take k)).hi + l[k].hi⟩ by rw [take_snoc l k hlt, dr_snoc])
      have bd := dr_bd (l.take k) (fun r hr => HO.out r (List.mem_of_mem_take hr))
      have bx := HO.out l[k] (List.getElem_mem hlt)
      have bl : (l.take k).length ≤ k := List.length_take_le _ _
      generalize l[k] = x at *
      generalize dr (l.take k) = s at *
      obtain ⟨b1, b2, b3⟩ := bx
      go_wp2_with fail
      go_roundw
      case rel =>
        refine ⟨k + 1, by omega, by go_num, ?_, ?_, ?_⟩
        · repeat (first | exact hb | exact Below.refl _ _ | refine Below.setCell ?_ (by first | (dsimp only; omega) | (simp; done) | (simp; omega)) _ | refine Below.alloc ?_ (by first | omega | (simp; done) | (simp; omega)) _ | refine Below.drew ?_)
        · repeat (first | exact hx0 | refine Box.alloc ?_ _ | refine Box.drew ?_ | refine Box.other ?_ _ (by first | (dsimp only; omega) | (simp; done) | (simp; omega)))
        · rw [hd.out]; exact ((hx1.set 0 _).set 1 _).alloc _
      case measure => simp [intOf]; omega
    · obtain rfl : l.length = k := by omega
      rw [List.take_length] at hx1
      obtain ⟨d0, d1, df, dz⟩ := hx1.v2
      obtain ⟨e0, e1, ef, ez⟩ := hx0.v2
      have hE := HE
      by_cases hbig : 999999999 < (dr l).hi
      · go_wp2_with fail
        refine bodyPost_ret (v := .tuple #[.agg #[.int .i64 0, .int .i64 0], .int .i64 4]) (by simp [results, Try.results52, go_sem, *]) rfl ?_
        refine Ret.mk ?_ ?_
        · rw [← HRF.out, ← HRB.out]
          have := HE.out
          simp [drR, drE, this, hbig, z]
        · repeat (first | exact hb | exact Below.refl _ _ | refine Below.setCell ?_ (by first | (dsimp only; omega) | (simp; done) | (simp; omega)) _ | refine Below.alloc ?_ (by first | omega | (simp; done) | (simp; omega)) _ | refine Below.drew ?_)
      · go_wp2_with fail
        refine bodyPost_ret (v := .tuple #[.agg #[.int .i64 (dr l).lo, .int .i64 (dr l).hi], .int .i64 0]) (by simp [results, Try.results52, go_sem, *]) rfl ?_
        refine Ret.mk ?_ ?_
        · rw [← HRF.out, ← HRB.out]
          have := HE.out
          have : ¬ 999999999 < (dr l).hi := by omega
          simp [drR, drE, *]
        · repeat (first | exact hb | exact Below.refl _ _ | refine Below.setCell ?_ (by first | (dsimp only; omega) | (simp; done) | (simp; omega)) _ | refine Below.alloc ?_ (by first | omega | (simp; done) | (simp; omega)) _ | refine Below.drew ?_)
end Go.Proofs.Ytlakcghdehdeiaa
