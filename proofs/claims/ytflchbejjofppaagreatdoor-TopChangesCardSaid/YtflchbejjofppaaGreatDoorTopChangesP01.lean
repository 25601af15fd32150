/- Lemmas on the way to the law TopChanges (part 1): A B R O -/
import Derived.BigQuiet
import Derived.StillTail
import Derived.WalkKit
import Derived.WalkSpells
import Derived.WalkLawsBesides
import Derived.Lib.Hide
import Derived.Test.YtflchbejjofppaaGreatDoorProg
set_option linter.unusedVariables false
set_option linter.unusedSimpArgs false

/- A region whose first operations leave old memory alone, and whose last ones run in a fixed order: one walk in the order of the text serves every order that may be drawn. Worlds that only grew are one class. -/
namespace Go
open Go.RowKit
structure Later (W : World) where
  w : World
  h : Below W.heap.size W w
instance (W : World) : Nonempty (Later W) := ⟨⟨W, Below.refl _ _⟩⟩
section
variable {P : Program} {ops : Array Oper} {md : Region.Mode} {C : World → Prop}
def headQ (P : Program) (md : Region.Mode) (ops : Array Oper) (C : World → Prop) (n : Nat) (L : Array Bool → Act → Prop) : Nat → Array Bool → Act → Prop
  | 0, listed, a => L listed a
  | f + 1, listed, a => Region.ready md ops listed ≠ [] ∧ ∀ i ∈ Region.ready md ops listed, i < n ∧ qOp P ops C i (headQ P md ops C n L f (listed.setIfInBounds i true)) a
theorem wpAny_of_headQ {n g : Nat} {L : Array Bool → Act → Prop} {Q' : Exit → Act → World → Prop} (hL : ∀ listed a w, C w → L listed a → wpAny P md ops Q' g listed a w) :
    ∀ (f : Nat) (listed : Array Bool) (a : Act) (w : World), C w → headQ P md ops C n L f listed a → wpAny P md ops Q' (f + g) listed a w
  | 0, listed, a, w, hw, h => by rw [Nat.zero_add]; exact hL _ _ _ hw h
  | f + 1, listed, a, w, hw, h => by
    rw [show f + 1 + g = (f + g) + 1 by omega]
    exact ⟨fun h0 => absurd h0 h.1, fun i hi => wpOp_of_qOp hw (fun a' w' hw' h' => wpAny_of_headQ hL f _ a' w' hw' h') (h.2 i hi).2⟩
theorem headQ_first {n i : Nat} {oi : Oper} {v : Value} {L : Array Bool → Act → Prop} (hi : ops[i]? = some oi) (hsel : ∀ (j : Nat) (o : Oper) cs b, ops[j]? = some o → o.op ≠ .select cs b)
    (hs : Region.sinkB md ops n = true) (hc : Region.chainB md ops n = true) (hn : n < ops.size) (hin : i < n)
    (hdone : ∀ listed a, L listed a → ∀ j ∈ Region.ready md ops listed, n ≤ j) (f : Nat) :
    ∀ (listed : Array Bool) (a : Act), HeadInv md ops n listed →
      (∀ j oj, ops[j]? = some oj → j ≠ i → listed.getD j true = false → (∀ e ∈ oj.after, Region.binds md e = true → e.on ≠ i) → oi.apart ops oj = true) →
      i ∈ Region.ready md ops listed → YieldsIn P ops C oi v a →
      headQ P md ops C n L f (listed.setIfInBounds i true) (a.put oi.dst v) → headQ P md ops C n L (f + 1) listed a := by
  induction f with
  | zero =>
    intro listed a inv _ hr hy H
    have hun := (mem_ready.1 hr).1
    refine ⟨fun h => (by rw [h] at hr; cases hr), fun j hj => ?_⟩
    have hjn : j < n := Nat.lt_of_not_le fun h => tail_waits hs hc hn inv _ i rfl hin hun j h hj
    by_cases hji : j = i
    · subst hji; exact ⟨hjn, hy.qOp hi H⟩
    · exact absurd (hdone _ _ H j (ready_mono hj hji)) (by omega)
  | succ f ih =>
    intro listed a inv hfree hr hy H
    have hun := (mem_ready.1 hr).1
    refine ⟨fun h => (by rw [h] at hr; cases hr), fun j hj => ?_⟩
    have hjn : j < n := Nat.lt_of_not_le fun h => tail_waits hs hc hn inv _ i rfl hin hun j h hj
    by_cases hji : j = i
    · subst hji; exact ⟨hjn, hy.qOp hi H⟩
    · have h1 := (H.2 j (ready_mono hj hji)).2
      obtain ⟨hjun, oj, hoj, hall⟩ := mem_ready.1 hj
      have hnot : ∀ e ∈ oj.after, Region.binds md e = true → e.on ≠ i := fun e he hb heq => by
        have h1 := hall e he hb
        rw [heq, getD_both hun] at h1
        cases h1
      have h2 := qOp_put hoj (hfree j oj hoj hji hjun hnot) (fun cs b => hsel i oi cs b hi) (fun cs b => hsel j oj cs b hoj) hy h1
      refine ⟨hjn, qOp_mono (fun a' h3 => ih (listed.setIfInBounds j true) a' (inv.set hj hjn) (fun k ok hk hki hk0 hno => hfree k ok hk hki ?_ hno) (ready_mono hr (Ne.symm hji)) h3.1 ?_) h2⟩
      · by_cases hjk : j = k
        · subst hjk; exact hjun
        · rw [getD_set_ne true hjk] at hk0; exact hk0
      · rw [Array.setIfInBounds_comm _ _ hji]; exact h3.2
theorem headQ_lex {n g : Nat} {Lq : Act → Prop} (hsel : Region.noSelect ops = true) (hs : Region.sinkB md ops n = true) (hc : Region.chainB md ops n = true) (hn : n < ops.size) :
    ∀ (l : List Oper) (k : Nat) (listed : Array Bool) (a : Act), (∀ j, j < l.length → l[j]? = ops[k + j]?) → k + l.length = n → HeadInv md ops n listed →
    Region.lexHead md ops g l.length k listed = true → wpQuiet P ops C Lq l a →
    headQ P md ops C n (fun listed' a' => Region.seqB md ops g n listed' = true ∧ Lq a') l.length listed a
  | [], k, listed, a, _, hk, _, hB, h => by
    obtain rfl : k = n := by simpa using hk
    exact ⟨by simpa [Region.lexHead] using hB, h⟩
  | o :: l, k, listed, a, hl, hk, inv, hB, h => by
    have h0 : ops[k]? = some o := by simpa using (hl 0 (by simp)).symm
    simp only [List.length_cons, Region.lexHead, Bool.and_eq_true] at hB
    obtain ⟨⟨hr, hf⟩, hB'⟩ := hB
    have hkn : k < n := by simp only [List.length_cons] at hk; omega
    have hr' : k ∈ Region.ready md ops listed := by simpa using hr
    have hst : qOp P ops C k (wpQuiet P ops C Lq l) a := by unfold qOp; simp only [h0]; exact h
    obtain ⟨v, hy, hK⟩ := yieldsIn_of_qOp h0 hst
    exact headQ_first h0 (Region.noSelect_spec hsel) hs hc hn hkn (fun listed' a' hL => seqB_ready hL.1) l.length listed a inv (Region.free_spec h0 hf) hr' hy
      (headQ_lex hsel hs hc hn l (k + 1) _ _ (fun j hj => by have := hl (j + 1) (by simp; omega); simpa [Nat.add_assoc, Nat.add_comm 1 j] using this) (by simp only [List.length_cons] at hk; omega) (inv.set hr' hkn) hB' hK)
theorem wp_region_head {id : Nat} {Q : Exit → Act → World → Prop} {a : Act} {w : World} {l : List Oper} (n : Nat) (hm : P.follows .mixedOrders = true) (hB : Region.lexTailB .any l.toArray n = true)
    (hC : C { w with drawn := w.drawn + 1 }) (h : wpQuiet P l.toArray C (fun a' => ∀ w', C w' → wpList P l.toArray Q (l.drop n) a' w') (l.take n) a) : (Code.region id l.toArray true).wp P Q a w := by
  simp only [Region.lexTailB, Bool.and_eq_true, decide_eq_true_eq] at hB
  obtain ⟨⟨⟨⟨hsel, hn⟩, hs⟩, hc⟩, hlex⟩ := hB
  have hn' : n < l.length := by simpa using hn
  have htl : (l.take n).length = n := by simp; omega
  have hdl : (l.drop n).length = l.toArray.size - n := by simp
  have inv0 : HeadInv .any l.toArray n (Array.replicate l.toArray.size false) :=
    ⟨by simp, fun j oj _ hl => (by rw [getD_replicate_false] at hl; cases hl), fun t _ ht => getD_in (by simpa using ht) (getD_replicate_false _ _)⟩
  have H := headQ_lex (C := C) (md := .any) (g := l.toArray.size - n) hsel hs hc hn (l.take n) 0 _ a (fun j hj => by
    have hj' : j < n := by rw [htl] at hj; exact hj
    simp [hj']) (by simpa using htl) inv0 (by rw [htl]; exact hlex) h
  refine wp_region_any hm ?_
  have := wpAny_of_headQ (Q' := Q) (g := l.toArray.size - n) (fun listed a' w' hw' hL => by
    have := wpAny_of_seq (md := .any) (Q' := Q) (l.drop n) n listed a' w' (fun j => by simp [List.getElem?_drop]) (by rw [hdl]; exact hL.1) (hL.2 w' hw')
    rwa [hdl] at this) _ _ _ _ hC H
  rw [htl, show n + (l.toArray.size - n) = l.toArray.size by omega] at this
  exact this
theorem wp_region_head_later {id : Nat} {Q : Exit → Act → World → Prop} {a : Act} {w : World} {l : List Oper} (n : Nat) (hm : P.follows .mixedOrders = true) (hB : Region.lexTailB .any l.toArray n = true)
    (h : wpQuiet P l.toArray (fun w' => ∃ X : Later w, w' = X.w) (fun a' => ∀ w', (∃ X : Later w, w' = X.w) → wpList P l.toArray Q (l.drop n) a' w') (l.take n) a) : (Code.region id l.toArray true).wp P Q a w :=
  wp_region_head n hm hB ⟨⟨{ w with drawn := w.drawn + 1 }, ⟨rfl, rfl, rfl, Nat.le_refl _, fun _ _ => rfl⟩⟩, rfl⟩ h
theorem wp_region_head_drew {id : Nat} {Q : Exit → Act → World → Prop} {a : Act} {w : World} {l : List Oper} (n : Nat) (hm : P.follows .mixedOrders = true) (hB : Region.lexTailB .any l.toArray n = true)
    (h : wpQuiet P l.toArray (fun w' => ∃ n, w' = w.drewN n) (fun a' => ∀ w', (∃ n, w' = w.drewN n) → wpList P l.toArray Q (l.drop n) a' w') (l.take n) a) : (Code.region id l.toArray true).wp P Q a w :=
  wp_region_head n hm hB ⟨1, rfl⟩ h
theorem wp_region_later {id : Nat} {Q : Exit → Act → World → Prop} {a : Act} {w : World} {l : List Oper} (hm : P.follows .mixedOrders = true) (hB : Region.lexB .any l.toArray = true)
    (h : wpQuiet P l.toArray (fun w' => ∃ X : Later w, w' = X.w) (fun a' => ∀ w', (∃ X : Later w, w' = X.w) → Q .normal a' w') l a) : (Code.region id l.toArray true).wp P Q a w :=
  wp_region_quiet (C := fun w' => ∃ X : Later w, w' = X.w) hm hB ⟨⟨{ w with drawn := w.drawn + 1 }, ⟨rfl, rfl, rfl, Nat.le_refl _, fun _ _ => rfl⟩⟩, rfl⟩ (by simpa using h)
theorem Later.cell {W : World} (X : Later W) (b o : Nat) (h : b < W.heap.size) : X.w.cell? ⟨b, o, none⟩ = W.cell? ⟨b, o, none⟩ := X.h.cell (p := ⟨b, o, none⟩) h
theorem Later.frozen {W : World} (X : Later W) (b o : Nat) (h : b < W.heap.size) : X.w.frozen? ⟨b, o, none⟩ = W.frozen? ⟨b, o, none⟩ := X.h.frozen (p := ⟨b, o, none⟩) h
attribute [go_sem] Later.cell Later.frozen
theorem Calls.later {P : Program} {f : FuncId} {args : Array Value} {W : World} {X : Later W} {v : Value} (h : Calls P f args X.w fun e w' => e = .returned v ∧ Below X.w.heap.size X.w w') :
    Calls P f args X.w fun e w'' => e = .returned v ∧ ∃ Y : Later W, w'' = Y.w :=
  h.mono fun _ w' ⟨he, hb⟩ => ⟨he, ⟨w', X.h.trans (hb.mono X.h.size)⟩, rfl⟩
theorem Calls.later_same {P : Program} {f : FuncId} {args : Array Value} {W : World} {X : Later W} {v : Value} (h : Calls P f args X.w fun e w' => e = .returned v ∧ X.w = w') :
    Calls P f args X.w fun e w'' => e = .returned v ∧ ∃ Y : Later W, w'' = Y.w :=
  h.mono fun _ _ ⟨he, hb⟩ => ⟨he, X, hb.symm⟩
end
end Go
/- How values are read: cells from an address on, slices as lists; contracts of calls that only grow the world. -/
namespace Go.Proofs.YtflchbejjofppaaGreatDoor
open Go Go.Proofs Go.RowKit
theorem bcell {W w1 : World} (hb : Below W.heap.size W w1) : (∀ b o, b < W.heap.size → w1.cell? ⟨b, o, none⟩ = W.cell? ⟨b, o, none⟩) ∧ (∀ b o, b < W.heap.size → w1.frozen? ⟨b, o, none⟩ = W.frozen? ⟨b, o, none⟩) :=
  ⟨fun b o h => hb.cell (p := ⟨b, o, none⟩) h, fun b o h => hb.frozen (p := ⟨b, o, none⟩) h⟩
def Ret (v : Value) (w : World) (e : Ending) (w' : World) : Prop := e = .returned v ∧ Below w.heap.size w w'
theorem Ret.mk {v v' : Value} {w w' : World} (h : v' = v) (hb : Below w.heap.size w w') : Ret v w (.returned v') w' := ⟨by rw [h], hb⟩
def At (w : World) (b o : Nat) (vs : List Value) : Prop := ∀ j u, vs[j]? = some u → w.cell? ⟨b, o + j, none⟩ = some u
theorem At.below {w w' : World} {b o B : Nat} {vs : List Value} (h : At w b o vs) (hb : Below B w w') (hB : b < B) : At w' b o vs :=
  fun j u hu => (hb.cell (p := ⟨b, o + j, none⟩) hB).trans (h j u hu)
theorem At.c1 {w : World} {b o : Nat} {x : Value} (h : At w b o [x]) : w.cell? ⟨b, o, none⟩ = some x := h 0 x rfl
theorem At.c2 {w : World} {b o : Nat} {x y : Value} (h : At w b o [x, y]) : w.cell? ⟨b, o, none⟩ = some x ∧ w.cell? ⟨b, o + 1, none⟩ = some y := ⟨h 0 x rfl, h 1 y rfl⟩
theorem At.c5 {w : World} {b o : Nat} {x y z s t : Value} (h : At w b o [x, y, z, s, t]) : w.cell? ⟨b, o, none⟩ = some x ∧ w.cell? ⟨b, o + 1, none⟩ = some y ∧ w.cell? ⟨b, o + 2, none⟩ = some z ∧ w.cell? ⟨b, o + 3, none⟩ = some s ∧ w.cell? ⟨b, o + 4, none⟩ = some t :=
  ⟨h 0 x rfl, h 1 y rfl, h 2 z rfl, h 3 s rfl, h 4 t rfl⟩
def Sl {α : Type} (f : α → List Value) (sz : Nat) (w : World) (B : Nat) (v : Value) (l : List α) : Prop :=
  ∃ a c, v = .slice a l.length c ∧ l.length ≤ 1000000000 ∧ (0 < l.length → ∃ b off, a = some ⟨b, off, none⟩ ∧ b < B ∧
    ∀ i (h : i < l.length), At w b (off + i * sz) (f l[i]))
theorem Sl.below {α : Type} {f : α → List Value} {sz : Nat} {w w' : World} {B : Nat} {v : Value} {l : List α} (h : Sl f sz w B v l) (hb : Below B w w') : Sl f sz w' B v l := by
  obtain ⟨a, c, rfl, hl, h⟩ := h
  refine ⟨a, c, rfl, hl, fun h0 => ?_⟩
  obtain ⟨b, off, rfl, hB, hc⟩ := h h0
  exact ⟨b, off, rfl, hB, fun i hi => (hc i hi).below hb hB⟩
theorem Sl.mono {α : Type} {f : α → List Value} {sz : Nat} {w : World} {B B' : Nat} {v : Value} {l : List α} (h : Sl f sz w B v l) (hB' : B ≤ B') : Sl f sz w B' v l := by
  obtain ⟨a, c, rfl, hl, h⟩ := h
  refine ⟨a, c, rfl, hl, fun h0 => ?_⟩
  obtain ⟨b, off, rfl, hB, hc⟩ := h h0
  exact ⟨b, off, rfl, by omega, hc⟩
theorem Sl.later {α : Type} {f : α → List Value} {sz : Nat} {w w' : World} {v : Value} {l : List α} (h : Sl f sz w w.heap.size v l) (hb : Below w.heap.size w w') : Sl f sz w' w'.heap.size v l :=
  (h.below hb).mono hb.size
theorem Sl.nil {α : Type} (f : α → List Value) (sz : Nat) (w : World) (B c : Nat) (a : Option Addr) : Sl f sz w B (.slice a 0 c) [] := ⟨a, c, rfl, by simp, fun h => absurd h (by simp)⟩
theorem flat_get {α : Type} (f : α → List Value) (sz : Nat) (hf : ∀ x, (f x).length = sz) (l : List α) : ∀ (i : Nat) (h : i < l.length) (j : Nat), j < sz → (l.flatMap f)[i * sz + j]? = (f l[i])[j]? := by
  induction l with
  | nil => intro i h; simp at h
  | cons x l ih =>
    intro i h j hj
    rw [List.flatMap_cons]
    cases i with
    | zero => rw [List.getElem?_append_left (by rw [hf]; omega)]; simp
    | succ i =>
      rw [List.getElem?_append_right (by rw [hf, Nat.succ_mul]; omega), hf, show (i + 1) * sz + j - sz = i * sz + j by rw [Nat.succ_mul]; omega]
      simpa using ih i (by simpa using h) j hj
theorem flat_length {α : Type} (f : α → List Value) (sz : Nat) (hf : ∀ x, (f x).length = sz) (l : List α) : (l.flatMap f).length = l.length * sz := by
  induction l with
  | nil => simp
  | cons x l ih => rw [List.flatMap_cons, List.length_append, hf, ih, List.length_cons, Nat.succ_mul, Nat.add_comm]
theorem Sl.of_owns {α : Type} {f : α → List Value} {sz : Nat} {w : World} {base : Nat} {e : TypeId} {v : Value} {l : List α} (hf : ∀ x, (f x).length = sz) (hlen : l.length ≤ 1000000000)
    (h : w.ownsRow base e sz v l.length (l.flatMap f)) : Sl f sz w w.heap.size v l := by
  rcases h.2 with ⟨rfl, h0⟩ | ⟨g, cap, cur, rfl, _, hg, _⟩
  · obtain rfl : l = [] := List.eq_nil_of_length_eq_zero h0
    exact Sl.nil f sz w _ 0 none
  · refine ⟨_, cap, rfl, hlen, fun _ => ⟨g, 0, rfl, (Array.getElem?_eq_some_iff.1 hg).1, fun i hi j u hu => ?_⟩⟩
    have hj : j < sz := by have := (List.getElem?_eq_some_iff.1 hu).1; rwa [hf] at this
    rw [show 0 + i * sz + j = i * sz + j by omega, h.cellAt (i * sz + j) (by have : (i + 1) * sz ≤ l.length * sz := Nat.mul_le_mul_right _ hi; rw [Nat.succ_mul] at this; omega), flat_get f sz hf l i hi j hj]
    exact hu
theorem Sl.lit {α : Type} {f : α → List Value} {sz : Nat} (hf : ∀ x, (f x).length = sz) (l : List α) (w : World) (cs : Array Value) (e : TypeId) (n : Nat) (hn : n = l.length) (hcs : cs.toList = l.flatMap f) (hlen : l.length ≤ 1000000000) :
    Sl f sz (w.alloc (.cells cs e)) (w.alloc (.cells cs e)).heap.size (.slice (some ⟨w.heap.size, 0, none⟩) n n) l := by
  subst hn
  have h := World.ownsRow_lit (base := 0) (e := e) (size := sz) w cs l.length (by omega) (by simp [maxLen]; omega) (by rw [← Array.length_toList, hcs, flat_length f sz hf])
  rw [hcs] at h
  exact Sl.of_owns hf hlen h
def encI (n : Int) : List Value := [.int .i64 n]
theorem encI_len (n : Int) : (encI n).length = 1 := rfl
structure Rg where
  lo : Int
  hi : Int
  deriving DecidableEq, Repr, Inhabited
def Rg.enc (r : Rg) : List Value := [.int .i64 r.lo, .int .i64 r.hi]
theorem Rg.enc_len (r : Rg) : r.enc.length = 2 := rfl
def Box (w : World) (b : Nat) (e : TypeId) (vs : List Value) : Prop := w.heap[b]? = some (.cells vs.toArray e (0, 0))
theorem Box.cell {w : World} {b : Nat} {e : TypeId} {vs : List Value} (h : Box w b e vs) (j : Nat) : w.cell? ⟨b, j, none⟩ = vs[j]? := by
  rw [cell_of_row w b j _ e (0, 0) h]; simp
theorem Box.frozen {w : World} {b : Nat} {e : TypeId} {vs : List Value} (h : Box w b e vs) (o : Nat) : w.frozen? ⟨b, o, none⟩ = false := frozen_of_row w b o _ e h
theorem Box.lt {w : World} {b : Nat} {e : TypeId} {vs : List Value} (h : Box w b e vs) : b < w.heap.size := (Array.getElem?_eq_some_iff.1 h).1
theorem Box.new (w : World) (cs : Array Value) (e : TypeId) : Box (w.alloc (.cells cs e)) w.heap.size e cs.toList := by
  unfold Box; rw [heap_alloc_new]
theorem Box.newAt (w : World) (cs : Array Value) (e : TypeId) {n : Nat} (h : w.heap.size = n) : Box (w.alloc (.cells cs e)) n e cs.toList := by subst h; exact Box.new w cs e
theorem Box.alloc {w : World} {b : Nat} {e : TypeId} {vs : List Value} (h : Box w b e vs) (o : Obj) : Box (w.alloc o) b e vs := by
  unfold Box; rw [heap_alloc_old w o h.lt]; exact h
theorem Box.drew {w : World} {b : Nat} {e : TypeId} {vs : List Value} (h : Box w b e vs) : Box w.drew b e vs := h
theorem Box.below {w w' : World} {b B : Nat} {e : TypeId} {vs : List Value} (h : Box w b e vs) (hb : Below B w w') (hB : b < B) : Box w' b e vs := (hb.block b hB).trans h
theorem Box.later {w w' : World} {b : Nat} {e : TypeId} {vs : List Value} (h : Box w b e vs) (hb : Below w.heap.size w w') : Box w' b e vs := h.below hb h.lt
theorem Box.set {w : World} {b : Nat} {e : TypeId} {vs : List Value} (h : Box w b e vs) (j : Nat) (u : Value) : Box (w.setCell ⟨b, j, none⟩ u) b e (vs.set j u) := by
  unfold Box; rw [heap_setCell_same w b j _ e u h]; simp
theorem Box.other {w : World} {b : Nat} {e : TypeId} {vs : List Value} (h : Box w b e vs) {a : Addr} (u : Value) (hne : a.block ≠ b) : Box (w.setCell a u) b e vs := by
  unfold Box; rw [heap_setCell_other w a b u (Ne.symm hne)]; exact h
theorem Box.kept {w w' : World} {b : Nat} {e : TypeId} {vs : List Value} {row : Option Nat} (h : Box w b e vs) (hg : w.grownBy w' row) (hne : some b ≠ row) : Box w' b e vs := (hg.block b h.lt hne).trans h
theorem Box.v1 {w : World} {b : Nat} {e : TypeId} {x : Value} (h : Box w b e [x]) : w.cell? ⟨b, 0, none⟩ = some x ∧ (∀ o, w.frozen? ⟨b, o, none⟩ = false) ∧ b < w.heap.size := ⟨h.cell 0, h.frozen, h.lt⟩
theorem Box.v2 {w : World} {b : Nat} {e : TypeId} {x y : Value} (h : Box w b e [x, y]) : w.cell? ⟨b, 0, none⟩ = some x ∧ w.cell? ⟨b, 1, none⟩ = some y ∧ (∀ o, w.frozen? ⟨b, o, none⟩ = false) ∧ b < w.heap.size :=
  ⟨h.cell 0, h.cell 1, h.frozen, h.lt⟩
theorem boxes3 {w W w1 : World} (hs : W.heap.size = w.heap.size + 1 + 1 + 1) (hb : Below W.heap.size W w1) :
    (∀ o, w1.cell? ⟨w.heap.size, o, none⟩ = W.cell? ⟨w.heap.size, o, none⟩) ∧ (∀ o, w1.cell? ⟨w.heap.size + 1, o, none⟩ = W.cell? ⟨w.heap.size + 1, o, none⟩) ∧ (∀ o, w1.cell? ⟨w.heap.size + 1 + 1, o, none⟩ = W.cell? ⟨w.heap.size + 1 + 1, o, none⟩) ∧
    (∀ o, w1.frozen? ⟨w.heap.size, o, none⟩ = W.frozen? ⟨w.heap.size, o, none⟩) ∧ (∀ o, w1.frozen? ⟨w.heap.size + 1, o, none⟩ = W.frozen? ⟨w.heap.size + 1, o, none⟩) ∧ (∀ o, w1.frozen? ⟨w.heap.size + 1 + 1, o, none⟩ = W.frozen? ⟨w.heap.size + 1 + 1, o, none⟩) ∧ w.heap.size < w1.heap.size ∧ w.heap.size + 1 < w1.heap.size ∧ w.heap.size + 1 + 1 < w1.heap.size := by
  have hz := hb.size
  refine ⟨fun o => hb.cell (p := ⟨_, o, none⟩) (by dsimp only; omega), fun o => hb.cell (p := ⟨_, o, none⟩) (by dsimp only; omega), fun o => hb.cell (p := ⟨_, o, none⟩) (by dsimp only; omega), fun o => hb.frozen (p := ⟨_, o, none⟩) (by dsimp only; omega), fun o => hb.frozen (p := ⟨_, o, none⟩) (by dsimp only; omega), fun o => hb.frozen (p := ⟨_, o, none⟩) (by dsimp only; omega), by omega, by omega, by omega⟩
end Go.Proofs.YtflchbejjofppaaGreatDoor
/- A region that draws its order, with one operation among its first ones that makes a new row of cells: what the others yield does not hang on when it comes. -/
namespace Go
open Go.RowKit
structure Later2 {W : World} (Y : Later W) where
  w : World
  h : Below Y.w.heap.size Y.w w
instance {W : World} (Y : Later W) : Nonempty (Later2 Y) := ⟨⟨Y.w, Below.refl _ _⟩⟩
theorem Later2.below {W : World} {Y : Later W} (X : Later2 Y) : Below W.heap.size W X.w := Y.h.trans (X.h.mono Y.h.size)
theorem Later2.cell {W : World} {Y : Later W} (X : Later2 Y) (b o : Nat) (h : b < W.heap.size) : X.w.cell? ⟨b, o, none⟩ = W.cell? ⟨b, o, none⟩ := X.below.cell (p := ⟨b, o, none⟩) h
theorem Later2.frozen {W : World} {Y : Later W} (X : Later2 Y) (b o : Nat) (h : b < W.heap.size) : X.w.frozen? ⟨b, o, none⟩ = W.frozen? ⟨b, o, none⟩ := X.below.frozen (p := ⟨b, o, none⟩) h
attribute [go_sem] Later2.cell Later2.frozen
theorem Calls.later2 {P : Program} {f : FuncId} {args : Array Value} {W : World} {Y : Later W} {X : Later2 Y} {v : Value} (h : Calls P f args X.w fun e w' => e = .returned v ∧ Below X.w.heap.size X.w w') :
    Calls P f args X.w fun e w'' => e = .returned v ∧ ∃ Z : Later2 Y, w'' = Z.w :=
  h.mono fun _ w' ⟨he, hb⟩ => ⟨he, ⟨w', X.h.trans (hb.mono X.h.size)⟩, rfl⟩
theorem Calls.later2_same {P : Program} {f : FuncId} {args : Array Value} {W : World} {Y : Later W} {X : Later2 Y} {v : Value} (h : Calls P f args X.w fun e w' => e = .returned v ∧ X.w = w') :
    Calls P f args X.w fun e w'' => e = .returned v ∧ ∃ Z : Later2 Y, w'' = Z.w :=
  h.mono fun _ _ ⟨he, hb⟩ => ⟨he, X, hb.symm⟩
section
variable {P : Program} {ops : Array Oper} {C : World → Prop}
theorem put_get (a : Act) (d : Option Tmp) (v : Value) (t : Nat) : (a.put d v).tmps[t]? = if d = some t then a.tmps[t]?.map (fun _ => v) else a.tmps[t]? := by
  cases d with
  | none => simp [Act.put]
  | some d =>
    simp only [Act.put, Array.getElem?_setIfInBounds, Option.some.injEq]
    by_cases h : d = t
    · subst h
      by_cases h2 : d < a.tmps.size
      · simp [h2]
      · simp [h2]
    · simp [h]
theorem put_size (a : Act) (d : Option Tmp) (v : Value) : (a.put d v).tmps.size = a.tmps.size := by cases d <;> simp [Act.put]
theorem put_defers (a : Act) (d : Option Tmp) (v : Value) : (a.put d v).defers = a.defers := by cases d <;> rfl
theorem seen_alike {o : Oper} {a a' : Act} (hs : ∀ cs b, o.op ≠ .select cs b) (h : ∀ t ∈ o.looksAt ops, a.tmps[t]? = a'.tmps[t]?) :
    execOp a.eval o = execOp a'.eval o ∧ Region.wanted o (yielded ops a.tmps) = Region.wanted o (yielded ops a'.tmps) := by
  constructor
  · refine execOp_congr o hs fun x hx => ?_
    cases x with
    | tmp t =>
      have := h t (List.mem_append_left _ (List.mem_filterMap.2 ⟨.tmp t, by simpa using hx, rfl⟩))
      simp [Act.eval, Array.getD_eq_getD_getElem?, this]
    | const v => rfl
    | global g => rfl
    | func f => rfl
  · unfold Region.wanted
    cases hg : o.guard with
    | none => rfl
    | some gw =>
      obtain ⟨g, want⟩ := gw
      have : yielded ops a.tmps g = yielded ops a'.tmps g := by
        unfold yielded
        cases ht : (ops[g]?).bind (·.dst) with
        | none => rfl
        | some t =>
          have : a.tmps[t]? = a'.tmps[t]? := h t (by
            unfold Oper.looksAt
            simp [hg, ht])
          simp [this]
      simp [this]
theorem quiet_text {A : Act} : ∀ (L : List Oper) (a : Act), wpQuiet P ops C (fun a' => a' = A) L a → L.Pairwise (fun o o' => ∀ t, o.dst = some t → o'.dst ≠ some t) →
    (∀ t, (∀ o ∈ L, o.dst ≠ some t) → A.tmps[t]? = a.tmps[t]?) ∧ A.tmps.size = a.tmps.size ∧ A.defers = a.defers ∧
    ∀ pre o post, L = pre ++ o :: post → ∃ ai v, YieldsIn P ops C o v ai ∧ (∀ t, (∃ p ∈ pre, p.dst = some t) → ai.tmps[t]? = A.tmps[t]?) ∧
      (∀ t, (∀ p ∈ pre, p.dst ≠ some t) → ai.tmps[t]? = a.tmps[t]?) ∧ (∀ t, o.dst = some t → A.tmps[t]? = a.tmps[t]?.map (fun _ => v)) := by
  intro L
  induction L with
  | nil =>
    intro a h _
    have h : a = A := h
    subst h
    exact ⟨fun _ _ => rfl, rfl, rfl, fun pre o post hl => by simp at hl⟩
  | cons o rest ih =>
    intro a h hp
    obtain ⟨hp1, hp2⟩ := List.pairwise_cons.1 hp
    have hv : ∃ v, YieldsIn P ops C o v a ∧ wpQuiet P ops C (fun a' => a' = A) rest (a.put o.dst v) := by
      unfold wpQuiet at h
      by_cases hw : Region.wanted o (yielded ops a.tmps) = true
      · rw [if_pos hw] at h
        obtain ⟨v, h1, h2⟩ := h
        exact ⟨v, .inl ⟨hw, h1⟩, h2⟩
      · rw [if_neg hw] at h
        exact ⟨undef, .inr ⟨by simpa using hw, rfl⟩, h⟩
    obtain ⟨v, hy, h2⟩ := hv
    obtain ⟨i1, i2, i3, i4⟩ := ih _ h2 hp2
    have hA : ∀ t, o.dst = some t → A.tmps[t]? = a.tmps[t]?.map (fun _ => v) := fun t ht => by
      rw [i1 t (fun o' ho' => hp1 o' ho' t ht), put_get, if_pos ht]
    refine ⟨fun t ht => ?_, by rw [i2, put_size], by rw [i3, put_defers], ?_⟩
    · rw [i1 t (fun o' ho' => ht o' (List.mem_cons_of_mem _ ho')), put_get, if_neg (ht o (by simp))]
    · intro pre o' post hl
      cases pre with
      | nil =>
        simp only [List.nil_append, List.cons.injEq] at hl
        obtain ⟨rfl, rfl⟩ := hl
        exact ⟨a, v, hy, fun t ⟨p, hp, _⟩ => by simp at hp, fun _ _ => rfl, hA⟩
      | cons o'' pre =>
        simp only [List.cons_append, List.cons.injEq] at hl
        obtain ⟨rfl, rfl⟩ := hl
        obtain ⟨ai, v', hy', j1, j2, j3⟩ := i4 pre o' post rfl
        refine ⟨ai, v', hy', fun t ⟨p, hpm, hpt⟩ => ?_, fun t ht => ?_, fun t ht => ?_⟩
        · rcases List.mem_cons.1 hpm with rfl | hpm
          · rw [j2 t (fun q hq => hp1 q (by simp [hq]) t hpt), put_get, if_pos hpt, hA t hpt]
          · exact j1 t ⟨p, hpm, hpt⟩
        · rw [j2 t (fun q hq => ht q (by simp [hq])), put_get, if_neg (ht o (by simp))]
        · have hne : o.dst ≠ some t := fun h => hp1 o' (by simp) t h ht
          rw [j3 t ht, put_get, if_neg hne]
def Region.flowPair (ops : Array Oper) (i j : Nat) : Bool :=
  match ops[i]?, ops[j]? with
  | some oi, some oj =>
    (match oi.dst with | some d => (i == j || oj.dst != some d) && (i != j || !(oi.looksAt ops).contains d) | none => true) &&
    (match oj.dst with | some d => i == j || !(oi.looksAt ops).contains d || (decide (j < i) && Region.waitsFor .any ops i j) | none => true)
  | _, _ => true
theorem Region.flowPair_dst {i j : Nat} {oi oj : Oper} (h : Region.flowPair ops i j = true) (hi : ops[i]? = some oi) (hj : ops[j]? = some oj) (hne : i ≠ j) {d : Tmp} (hd : oi.dst = some d) : oj.dst ≠ some d := by
  intro hd'
  unfold Region.flowPair at h
  simp [hi, hj, hd, hd', hne] at h
theorem Region.flowPair_self {i : Nat} {oi : Oper} (h : Region.flowPair ops i i = true) (hi : ops[i]? = some oi) {d : Tmp} (hd : oi.dst = some d) : d ∉ oi.looksAt ops := by
  intro hm
  unfold Region.flowPair at h
  simp [hi, hd] at h
  exact h hm
theorem Region.flowPair_looks {i j : Nat} {oi oj : Oper} (h : Region.flowPair ops i j = true) (hi : ops[i]? = some oi) (hj : ops[j]? = some oj) (hne : i ≠ j) {d : Tmp} (hd : oj.dst = some d) (hl : d ∈ oi.looksAt ops) :
    j < i ∧ Region.waitsFor .any ops i j = true := by
  unfold Region.flowPair at h
  simp only [hi, hj, hd, Bool.and_eq_true] at h
  have h2 := h.2
  simp [hne, hl] at h2
  exact h2
def Region.blindTo (ops : Array Oper) (i b : Nat) : Bool :=
  match ops[i]?, ops[b]? with
  | some o, some ob => (match ob.dst with | some d => !(o.looksAt ops).contains d | none => true)
  | _, _ => true
theorem Region.blindTo_spec {i b : Nat} {o ob : Oper} (h : Region.blindTo ops i b = true) (hi : ops[i]? = some o) (hb : ops[b]? = some ob) {d : Tmp} (hd : ob.dst = some d) : d ∉ o.looksAt ops := by
  intro hm
  unfold Region.blindTo at h
  simp [hi, hb, hd] at h
  exact h hm
def Region.marked (size n : Nat) : Array Bool := ((List.range size).map fun i => decide (i < n)).toArray
def Region.flowB (ops : Array Oper) (n b : Nat) : Bool :=
  Region.noSelect ops && decide (n < ops.size) && decide (b < n) && Region.sinkB .any ops n && Region.chainB .any ops n && Region.seqB .any ops (ops.size - n) n (Region.marked ops.size n) &&
  ((List.range n).all fun i => match ops[i]? with | some o => o.after.all fun e => !Region.binds .any e || decide (e.on < i) | none => true) &&
  ((List.range n).all fun i => (List.range n).all fun j => Region.flowPair ops i j) &&
  (match ops[b]? with | some o => o.guard.isNone | none => false) &&
  ((List.range n).all fun i => i == b || Region.blindTo ops i b)
structure Flow (ops : Array Oper) (n b : Nat) (ob : Oper) (W : World) (a0 A : Act) (bv : Nat → Value) (B : Nat → World → Prop) (listed : Array Bool) (a : Act) (w : World) (g : Nat) : Prop where
  inv : HeadInv .any ops n listed
  later : Below W.heap.size W w
  size : a.tmps.size = a0.tmps.size
  defers : a.defers = a0.defers
  slot : ∀ j o t, j < n → ops[j]? = some o → o.dst = some t → j ≠ b → a.tmps[t]? = if listed.getD j false = true then A.tmps[t]? else a0.tmps[t]?
  slotb : ∀ t, ob.dst = some t → a.tmps[t]? = if listed.getD b false = true then a0.tmps[t]?.map (fun _ => bv g) else a0.tmps[t]?
  other : ∀ t, (∀ j o, j < n → ops[j]? = some o → o.dst ≠ some t) → a.tmps[t]? = a0.tmps[t]?
  box : listed.getD b false = true → B g w
def headsOf (l : List Oper) (n b : Nat) : List Oper := l.take b ++ (l.drop (b + 1)).take (n - b - 1)
def posOf (b i : Nat) : Nat := if i < b then i else i - 1
theorem headsOf_get {l : List Oper} {n b : Nat} (hb : b < n) (hn : n ≤ l.length) {i : Nat} (hi : i < n) (hne : i ≠ b) : (headsOf l n b)[posOf b i]? = l[i]? := by
  unfold headsOf posOf
  by_cases h : i < b
  · rw [if_pos h, List.getElem?_append_left (by simp; omega), List.getElem?_take, if_pos h]
  · rw [if_neg h, List.getElem?_append_right (by simp; omega), List.length_take, List.getElem?_take, if_pos (by omega), List.getElem?_drop]
    congr 1; omega
theorem headsOf_length {l : List Oper} {n b : Nat} (hb : b < n) (hn : n ≤ l.length) : (headsOf l n b).length = n - 1 := by
  unfold headsOf; simp; omega
theorem headsOf_from {l : List Oper} {n b : Nat} (hb : b < n) (hn : n ≤ l.length) {q : Nat} {o : Oper} (h : (headsOf l n b)[q]? = some o) : ∃ j, j < n ∧ j ≠ b ∧ l[j]? = some o ∧ posOf b j = q := by
  have hq : q < n - 1 := by have := (List.getElem?_eq_some_iff.1 h).1; rwa [headsOf_length hb hn] at this
  by_cases hqb : q < b
  · have e : posOf b q = q := by unfold posOf; rw [if_pos hqb]
    exact ⟨q, by omega, by omega, by rw [← headsOf_get hb hn (by omega) (by omega), e, h], e⟩
  · have e : posOf b (q + 1) = q := by unfold posOf; rw [if_neg (by omega)]; omega
    exact ⟨q + 1, by omega, by omega, by rw [← headsOf_get hb hn (by omega) (by omega), e, h], e⟩
theorem exists_leastM : ∀ (U : List Nat), U ≠ [] → ∃ i ∈ U, ∀ j ∈ U, i ≤ j
  | [], h => absurd rfl h
  | [x], _ => ⟨x, by simp, by simp⟩
  | x :: y :: U, _ => by
    obtain ⟨i, hi, hm⟩ := exists_leastM (y :: U) (by simp)
    by_cases h : x ≤ i
    · exact ⟨x, by simp, fun j hj => by rcases List.mem_cons.1 hj with rfl | hj; exact Nat.le_refl _; exact Nat.le_trans h (hm j hj)⟩
    · exact ⟨i, List.mem_cons_of_mem _ hi, fun j hj => by rcases List.mem_cons.1 hj with rfl | hj; omega; exact hm j hj⟩
end
section
variable {P : Program} {l : List Oper} {n b : Nat} {ob : Oper} {W : World} {a0 A : Act} {bv : Nat → Value} {B : Nat → World → Prop} {Q : Exit → Act → World → Prop}
end
end Go
/- Slices that a call owns, element by element: one more element, another element in a place. -/
namespace Go.Proofs.YtflchbejjofppaaGreatDoor
open Go Go.Proofs Go.RowKit
def Own {α : Type} (f : α → List Value) (sz : Nat) (e : TypeId) (w : World) (base : Nat) (v : Value) (l : List α) : Prop := w.ownsRow base e sz v l.length (l.flatMap f)
section
variable {α : Type} {f : α → List Value} {sz : Nat} {e : TypeId} {w w' : World} {base : Nat} {v : Value} {l : List α}
theorem Own.nil (f : α → List Value) (sz : Nat) (e : TypeId) (w : World) (base : Nat) : Own f sz e w base (.slice none 0 0) [] := World.ownsRow_nil w base e sz
theorem Own.drewN (h : Own f sz e w base v l) (n : Nat) : Own f sz e (w.drewN n) base v l := h
theorem Own.drew (h : Own f sz e w base v l) : Own f sz e w.drew base v l := h
theorem Own.alloc (h : Own f sz e w base v l) (o : Obj) : Own f sz e (w.alloc o) base v l := World.ownsRow.alloc h o
theorem Own.kept {row : Option Nat} (h : Own f sz e w base v l) (hg : w.grownBy w' row) (hne : v.ownBlock = none ∨ v.ownBlock ≠ row) : Own f sz e w' base v l := World.ownsRow.kept h hg hne
theorem Own.ne (h : Own f sz e w base v l) {b : Nat} (hb : b < base) : some b ≠ v.ownBlock := fun h2 => by
  have := (World.ownsRow.lt h b h2.symm).1
  omega
theorem Own.later (h : Own f sz e w base v l) (hb : Below w.heap.size w w') : Own f sz e w' base v l := by
  refine h.kept (row := none) ⟨hb.os, hb.tape, hb.output, hb.size, fun k hk _ => hb.block k hk⟩ ?_
  cases v.ownBlock <;> simp
theorem Own.other (h : Own f sz e w base v l) {a : Addr} (u : Value) (hne : v.ownBlock ≠ some a.block) : Own f sz e (w.setCell a u) base v l := ownsRow_setCell_other h hne u
theorem Own.below (h : Own f sz e w base v l) {a : Addr} (u : Value) (hne : a.block < base) : Own f sz e (w.setCell a u) base v l := h.other u (fun h2 => h.ne hne h2.symm)
theorem Own.toSl (h : Own f sz e w base v l) (hf : ∀ x, (f x).length = sz) (hlen : l.length ≤ 1000000000) : Sl f sz w w.heap.size v l := Sl.of_owns hf hlen h
theorem Own.form (h : Own f sz e w base v l) (hn : 0 < l.length) : ∃ g cap, v = .slice (some ⟨g, 0, none⟩) l.length cap ∧ base ≤ g ∧ g < w.heap.size := by
  rcases h.2 with ⟨_, h0⟩ | ⟨g, cap, cur, hv, hb, hg, _⟩
  · omega
  · exact ⟨g, cap, hv, hb, (Array.getElem?_eq_some_iff.1 hg).1⟩
theorem Own.shape (h : Own f sz e w base v l) : ∃ a cap, v = .slice a l.length cap := by
  rcases h.2 with ⟨hv, h0⟩ | ⟨g, cap, cur, hv, _⟩
  · exact ⟨none, 0, by rw [hv, h0]⟩
  · exact ⟨_, cap, hv⟩
theorem Own.at {g cap : Nat} (h : Own f sz e w base (.slice (some ⟨g, 0, none⟩) l.length cap) l) (hf : ∀ x, (f x).length = sz) (i : Nat) (hi : i < l.length) : At w g (i * sz) (f l[i]) := fun j u hu => by
  have hj : j < sz := by have := (List.getElem?_eq_some_iff.1 hu).1; rwa [hf] at this
  rw [World.ownsRow.cellAt h (i * sz + j) (by have : (i + 1) * sz ≤ l.length * sz := Nat.mul_le_mul_right _ hi; rw [Nat.succ_mul] at this; omega), flat_get f sz hf l i hi j hj]
  exact hu
theorem Own.frozen {g cap : Nat} (h : Own f sz e w base (.slice (some ⟨g, 0, none⟩) l.length cap) l) (o : Nat) : w.frozen? ⟨g, o, none⟩ = false := World.ownsRow.frozenAt h o
theorem flat_set (hf : ∀ x, (f x).length = sz) (l : List α) : ∀ (i : Nat) (hi : i < l.length) (j : Nat) (_ : j < sz) (u : Value) (y : α), f y = (f l[i]).set j u → (l.flatMap f).set (i * sz + j) u = (l.set i y).flatMap f := by
  induction l with
  | nil => intro i hi; simp at hi
  | cons x l ih =>
    intro i hi j hj u y hy
    cases i with
    | zero =>
      simp only [List.getElem_cons_zero] at hy
      simp only [List.flatMap_cons, List.set_cons_zero, Nat.zero_mul, Nat.zero_add, hy]
      rw [List.set_append_left _ _ (by rw [hf]; exact hj)]
    | succ i =>
      simp only [List.getElem_cons_succ] at hy
      simp only [List.flatMap_cons, List.set_cons_succ]
      rw [List.set_append_right _ _ (by rw [hf, Nat.succ_mul]; omega), hf, show (i + 1) * sz + j - sz = i * sz + j by rw [Nat.succ_mul]; omega, ih i (by simpa using hi) j hj u y hy]
theorem Own.set {g cap : Nat} (h : Own f sz e w base (.slice (some ⟨g, 0, none⟩) l.length cap) l) (hf : ∀ x, (f x).length = sz) (i : Nat) (hi : i < l.length) (j : Nat) (hj : j < sz) (u : Value) (y : α) (hy : f y = (f l[i]).set j u) :
    Own f sz e (w.setCell ⟨g, i * sz + j, none⟩ u) base (.slice (some ⟨g, 0, none⟩) l.length cap) (l.set i y) := by
  have := (World.ownsRow.stored h (i * sz + j) u).1
  unfold Own
  rw [List.length_set, ← flat_set hf l i hi j hj u y hy]
  exact this
end
theorem Own.lit {α : Type} {f : α → List Value} {sz : Nat} (hf : ∀ x, (f x).length = sz) (e : TypeId) (l : List α) (w : World) (cs : Array Value) (n : Nat) (base : Nat) (hn : n = l.length) (hcs : cs.toList = l.flatMap f) (hlen : l.length ≤ 1000000000) (hb : base ≤ w.heap.size) :
    Own f sz e (w.alloc (.cells cs e)) base (.slice (some ⟨w.heap.size, 0, none⟩) n n) l := by
  subst hn
  have h := World.ownsRow_lit (base := base) (e := e) (size := sz) w cs l.length hb (by simp [maxLen]; omega) (by rw [← Array.length_toList, hcs, flat_length f sz hf])
  rw [hcs] at h
  exact h
theorem wpList_push {α : Type} (f : α → List Value) (sz bytes : Nat) (t e : TypeId) (z : Value) {P : Program} (hT : P.underlying t = some (.slice e)) (hI : (P.info? e).map (fun i => (i.zero, i.size, i.bytes)) = some (some z, sz, bytes))
    (hzs : z.cells.size = sz) (hsz : 0 < sz) (hby : bytes ≤ 1000) (hf : ∀ x, (f x).length = sz) (h1c : ∀ x, ∀ u ∈ f x, u.oneCell' = true)
    (l : List α) (x : α) (base : Nat) (w0 : World) (cs : Array Value) (hcs : cs.toList = f x) (v : Value) (hown : Own f sz e w0 base v l) (hbase : base ≤ w0.heap.size) (hlen : l.length ≤ 1000000)
    {ops : Array Oper} {rest : List Oper} {o : Oper} {a : Act} {Q : Exit → Act → World → Prop} (hgd : o.guard = none) (s y : Operand)
    (ho : o.op = .call { callee := .builtin .append, args := #[s, y], argTypes := #[t, t] }) (hs : a.eval s = v) (hy : a.eval y = .slice (some ⟨w0.heap.size, 0, none⟩) 1 1)
    (h : ∀ v' w', Own f sz e w' base v' (l ++ [x]) → w0.grownBy w' v.ownBlock → wpList P ops Q rest (a.put o.dst v') w') : wpList P ops Q (o :: rest) a (w0.alloc (.cells cs e)) := by
  obtain ⟨i, hi, hz0, hz1, hz2⟩ := info_parts hI
  have hmul : (l.length + 1) * bytes ≤ 1000001 * 1000 := Nat.mul_le_mul (by omega) hby
  refine wpList_append_own _ hgd s y t ho base e i z sz bytes hT hi hz0 hz1 hz2 hzs hsz v l.length _ hs (hown.alloc _) ⟨w0.heap.size, 0, none⟩ 1 1 (f x) hy (by rw [hf]; omega) ?_ (h1c x) (by simp [maxLen]; omega) (by omega) (by simp; omega) ?_
  · intro j u hu
    rw [Addr.add_lit, Nat.zero_add, cell_of_row _ w0.heap.size j cs e (0, 0) (heap_alloc_new w0 _)]
    rw [← hcs] at hu
    simpa using hu
  · intro v' w' ho' hg' _
    refine h v' w' ?_ ⟨hg'.os, hg'.tape, hg'.output, Nat.le_trans (by simp) hg'.size, fun k hk hne => (hg'.block k (by simp; omega) hne).trans (heap_alloc_old w0 _ hk)⟩
    unfold Own
    rw [List.length_append, List.length_singleton, List.flatMap_append, List.flatMap_singleton]
    exact ho'
theorem wpList_pushB {α : Type} (f : α → List Value) (sz bytes : Nat) (t e : TypeId) (z : Value) {P : Program} (hT : P.underlying t = some (.slice e)) (hI : (P.info? e).map (fun i => (i.zero, i.size, i.bytes)) = some (some z, sz, bytes))
    (hzs : z.cells.size = sz) (hsz : 0 < sz) (hby : bytes ≤ 1000) (hf : ∀ x, (f x).length = sz) (h1c : ∀ x, ∀ u ∈ f x, u.oneCell' = true)
    (l : List α) (x : α) (base : Nat) (w : World) (g : Nat) (cs : Array Value) (e' : TypeId) (hg : w.heap[g]? = some (.cells cs e' (0, 0))) (hcs : cs.toList = f x) (v : Value) (hown : Own f sz e w base v l) (hbase : base ≤ w.heap.size) (hlen : l.length ≤ 1000000)
    {ops : Array Oper} {rest : List Oper} {o : Oper} {a : Act} {Q : Exit → Act → World → Prop} (hgd : o.guard = none) (s y : Operand)
    (ho : o.op = .call { callee := .builtin .append, args := #[s, y], argTypes := #[t, t] }) (hs : a.eval s = v) (hy : a.eval y = .slice (some ⟨g, 0, none⟩) 1 1)
    (h : ∀ v' w', Own f sz e w' base v' (l ++ [x]) → w.grownBy w' v.ownBlock → wpList P ops Q rest (a.put o.dst v') w') : wpList P ops Q (o :: rest) a w := by
  obtain ⟨i, hi, hz0, hz1, hz2⟩ := info_parts hI
  have hmul : (l.length + 1) * bytes ≤ 1000001 * 1000 := Nat.mul_le_mul (by omega) hby
  refine wpList_append_own _ hgd s y t ho base e i z sz bytes hT hi hz0 hz1 hz2 hzs hsz v l.length _ hs hown ⟨g, 0, none⟩ 1 1 (f x) hy (by rw [hf]; omega) ?_ (h1c x) (by simp [maxLen]; omega) (by omega) hbase ?_
  · intro j u hu
    rw [Addr.add_lit, Nat.zero_add, cell_of_row _ g j cs e' (0, 0) hg]
    rw [← hcs] at hu
    simpa using hu
  · intro v' w' ho' hg' _
    refine h v' w' ?_ hg'
    unfold Own
    rw [List.length_append, List.length_singleton, List.flatMap_append, List.flatMap_singleton]
    exact ho'
theorem grown_below {w w' : World} {base : Nat} {v : Value} {B : Nat} {w0 : World} (hb : Below B w0 w) (hg : w.grownBy w' v.ownBlock) (hB : B ≤ w.heap.size) (hlt : ∀ k, v.ownBlock = some k → base ≤ k) (hBb : B ≤ base) : Below B w0 w' :=
  hb.grown hg hB fun k hk => Nat.le_trans hBb (hlt k hk)
theorem Own.lt' {α : Type} {f : α → List Value} {sz : Nat} {e : TypeId} {w : World} {base : Nat} {v : Value} {l : List α} (h : Own f sz e w base v l) : ∀ k, v.ownBlock = some k → base ≤ k := fun k hk => (World.ownsRow.lt h k hk).1
end Go.Proofs.YtflchbejjofppaaGreatDoor
