/- Lemmas on the way to the law TopOneGrain (part 1): YA YR YRc YB YO YGx -/
import Derived.BigQuiet
import Derived.StillTail
import Derived.WalkKit
import Derived.WalkSpells
import Derived.WalkLawsBesides
import Derived.Lib.Hide
import Derived.Test.YtpafjhjpchdcdaaGreatDoorProg
import Derived.Laws.OwnMore
import Derived.Laws.AppendOwnNone
import Derived.Deep.AppendSrc
set_option linter.unusedVariables false
set_option linter.unusedSimpArgs false

/- A region whose first operations leave old memory alone, and whose last ones run in a fixed order: one walk in the order of the text serves every order that may be drawn. Worlds that only grew are one class. -/
namespace Go
open Go.RowKit
structure Later (W : World) where
  w : World
  h : Below W.heap.size W w
instance (W : World) : Nonempty (Later W) := ⟨⟨W, Below.refl _ _⟩⟩
section
variable {P : Program} {ops : Array Oper} {md : Region.Mode} {C : World → Prop}
def headQ (P : Program) (md : Region.Mode) (ops : Array Oper) (C : World → Prop) (n : Nat) (L : Array Bool → Act → Prop) : Nat → Array Bool → Act → Prop
  | 0, listed, a => L listed a
  | f + 1, listed, a => Region.ready md ops listed ≠ [] ∧ ∀ i ∈ Region.ready md ops listed, i < n ∧ qOp P ops C i (headQ P md ops C n L f (listed.setIfInBounds i true)) a
theorem wpAny_of_headQ {n g : Nat} {L : Array Bool → Act → Prop} {Q' : Exit → Act → World → Prop} (hL : ∀ listed a w, C w → L listed a → wpAny P md ops Q' g listed a w) :
    ∀ (f : Nat) (listed : Array Bool) (a : Act) (w : World), C w → headQ P md ops C n L f listed a → wpAny P md ops Q' (f + g) listed a w
  | 0, listed, a, w, hw, h => by rw [Nat.zero_add]; exact hL _ _ _ hw h
  | f + 1, listed, a, w, hw, h => by
    rw [show f + 1 + g = (f + g) + 1 by omega]
    exact ⟨fun h0 => absurd h0 h.1, fun i hi => wpOp_of_qOp hw (fun a' w' hw' h' => wpAny_of_headQ hL f _ a' w' hw' h') (h.2 i hi).2⟩
theorem headQ_first {n i : Nat} {oi : Oper} {v : Value} {L : Array Bool → Act → Prop} (hi : ops[i]? = some oi) (hsel : ∀ (j : Nat) (o : Oper) cs b, ops[j]? = some o → o.op ≠ .select cs b)
    (hs : Region.sinkB md ops n = true) (hc : Region.chainB md ops n = true) (hn : n < ops.size) (hin : i < n)
    (hdone : ∀ listed a, L listed a → ∀ j ∈ Region.ready md ops listed, n ≤ j) (f : Nat) :
    ∀ (listed : Array Bool) (a : Act), HeadInv md ops n listed →
      (∀ j oj, ops[j]? = some oj → j ≠ i → listed.getD j true = false → (∀ e ∈ oj.after, Region.binds md e = true → e.on ≠ i) → oi.apart ops oj = true) →
      i ∈ Region.ready md ops listed → YieldsIn P ops C oi v a →
      headQ P md ops C n L f (listed.setIfInBounds i true) (a.put oi.dst v) → headQ P md ops C n L (f + 1) listed a := by
  induction f with
  | zero =>
    intro listed a inv _ hr hy H
    have hun := (mem_ready.1 hr).1
    refine ⟨fun h => (by rw [h] at hr; cases hr), fun j hj => ?_⟩
    have hjn : j < n := Nat.lt_of_not_le fun h => tail_waits hs hc hn inv _ i rfl hin hun j h hj
    by_cases hji : j = i
    · subst hji; exact ⟨hjn, hy.qOp hi H⟩
    · exact absurd (hdone _ _ H j (ready_mono hj hji)) (by omega)
  | succ f ih =>
    intro listed a inv hfree hr hy H
    have hun := (mem_ready.1 hr).1
    refine ⟨fun h => (by rw [h] at hr; cases hr), fun j hj => ?_⟩
    have hjn : j < n := Nat.lt_of_not_le fun h => tail_waits hs hc hn inv _ i rfl hin hun j h hj
    by_cases hji : j = i
    · subst hji; exact ⟨hjn, hy.qOp hi H⟩
    · have h1 := (H.2 j (ready_mono hj hji)).2
      obtain ⟨hjun, oj, hoj, hall⟩ := mem_ready.1 hj
      have hnot : ∀ e ∈ oj.after, Region.binds md e = true → e.on ≠ i := fun e he hb heq => by
        have h1 := hall e he hb
        rw [heq, getD_both hun] at h1
        cases h1
      have h2 := qOp_put hoj (hfree j oj hoj hji hjun hnot) (fun cs b => hsel i oi cs b hi) (fun cs b => hsel j oj cs b hoj) hy h1
      refine ⟨hjn, qOp_mono (fun a' h3 => ih (listed.setIfInBounds j true) a' (inv.set hj hjn) (fun k ok hk hki hk0 hno => hfree k ok hk hki ?_ hno) (ready_mono hr (Ne.symm hji)) h3.1 ?_) h2⟩
      · by_cases hjk : j = k
        · subst hjk; exact hjun
        · rw [getD_set_ne true hjk] at hk0; exact hk0
      · rw [Array.setIfInBounds_comm _ _ hji]; exact h3.2
theorem headQ_lex {n g : Nat} {Lq : Act → Prop} (hsel : Region.noSelect ops = true) (hs : Region.sinkB md ops n = true) (hc : Region.chainB md ops n = true) (hn : n < ops.size) :
    ∀ (l : List Oper) (k : Nat) (listed : Array Bool) (a : Act), (∀ j, j < l.length → l[j]? = ops[k + j]?) → k + l.length = n → HeadInv md ops n listed →
    Region.lexHead md ops g l.length k listed = true → wpQuiet P ops C Lq l a →
    headQ P md ops C n (fun listed' a' => Region.seqB md ops g n listed' = true ∧ Lq a') l.length listed a
  | [], k, listed, a, _, hk, _, hB, h => by
    obtain rfl : k = n := by simpa using hk
    exact ⟨by simpa [Region.lexHead] using hB, h⟩
  | o :: l, k, listed, a, hl, hk, inv, hB, h => by
    have h0 : ops[k]? = some o := by simpa using (hl 0 (by simp)).symm
    simp only [List.length_cons, Region.lexHead, Bool.and_eq_true] at hB
    obtain ⟨⟨hr, hf⟩, hB'⟩ := hB
    have hkn : k < n := by simp only [List.length_cons] at hk; omega
    have hr' : k ∈ Region.ready md ops listed := by simpa using hr
    have hst : qOp P ops C k (wpQuiet P ops C Lq l) a := by unfold qOp; simp only [h0]; exact h
    obtain ⟨v, hy, hK⟩ := yieldsIn_of_qOp h0 hst
    exact headQ_first h0 (Region.noSelect_spec hsel) hs hc hn hkn (fun listed' a' hL => seqB_ready hL.1) l.length listed a inv (Region.free_spec h0 hf) hr' hy
      (headQ_lex hsel hs hc hn l (k + 1) _ _ (fun j hj => by have := hl (j + 1) (by simp; omega); simpa [Nat.add_assoc, Nat.add_comm 1 j] using this) (by simp only [List.length_cons] at hk; omega) (inv.set hr' hkn) hB' hK)
theorem wp_region_head {id : Nat} {Q : Exit → Act → World → Prop} {a : Act} {w : World} {l : List Oper} (n : Nat) (hm : P.follows .mixedOrders = true) (hB : Region.lexTailB .any l.toArray n = true)
    (hC : C { w with drawn := w.drawn + 1 }) (h : wpQuiet P l.toArray C (fun a' => ∀ w', C w' → wpList P l.toArray Q (l.drop n) a' w') (l.take n) a) : (Code.region id l.toArray true).wp P Q a w := by
  simp only [Region.lexTailB, Bool.and_eq_true, decide_eq_true_eq] at hB
  obtain ⟨⟨⟨⟨hsel, hn⟩, hs⟩, hc⟩, hlex⟩ := hB
  have hn' : n < l.length := by simpa using hn
  have htl : (l.take n).length = n := by simp; omega
  have hdl : (l.drop n).length = l.toArray.size - n := by simp
  have inv0 : HeadInv .any l.toArray n (Array.replicate l.toArray.size false) :=
    ⟨by simp, fun j oj _ hl => (by rw [getD_replicate_false] at hl; cases hl), fun t _ ht => getD_in (by simpa using ht) (getD_replicate_false _ _)⟩
  have H := headQ_lex (C := C) (md := .any) (g := l.toArray.size - n) hsel hs hc hn (l.take n) 0 _ a (fun j hj => by
    have hj' : j < n := by rw [htl] at hj; exact hj
    simp [hj']) (by simpa using htl) inv0 (by rw [htl]; exact hlex) h
  refine wp_region_any hm ?_
  have := wpAny_of_headQ (Q' := Q) (g := l.toArray.size - n) (fun listed a' w' hw' hL => by
    have := wpAny_of_seq (md := .any) (Q' := Q) (l.drop n) n listed a' w' (fun j => by simp [List.getElem?_drop]) (by rw [hdl]; exact hL.1) (hL.2 w' hw')
    rwa [hdl] at this) _ _ _ _ hC H
  rw [htl, show n + (l.toArray.size - n) = l.toArray.size by omega] at this
  exact this
theorem wp_region_head_later {id : Nat} {Q : Exit → Act → World → Prop} {a : Act} {w : World} {l : List Oper} (n : Nat) (hm : P.follows .mixedOrders = true) (hB : Region.lexTailB .any l.toArray n = true)
    (h : wpQuiet P l.toArray (fun w' => ∃ X : Later w, w' = X.w) (fun a' => ∀ w', (∃ X : Later w, w' = X.w) → wpList P l.toArray Q (l.drop n) a' w') (l.take n) a) : (Code.region id l.toArray true).wp P Q a w :=
  wp_region_head n hm hB ⟨⟨{ w with drawn := w.drawn + 1 }, ⟨rfl, rfl, rfl, Nat.le_refl _, fun _ _ => rfl⟩⟩, rfl⟩ h
theorem wp_region_head_drew {id : Nat} {Q : Exit → Act → World → Prop} {a : Act} {w : World} {l : List Oper} (n : Nat) (hm : P.follows .mixedOrders = true) (hB : Region.lexTailB .any l.toArray n = true)
    (h : wpQuiet P l.toArray (fun w' => ∃ n, w' = w.drewN n) (fun a' => ∀ w', (∃ n, w' = w.drewN n) → wpList P l.toArray Q (l.drop n) a' w') (l.take n) a) : (Code.region id l.toArray true).wp P Q a w :=
  wp_region_head n hm hB ⟨1, rfl⟩ h
theorem wp_region_later {id : Nat} {Q : Exit → Act → World → Prop} {a : Act} {w : World} {l : List Oper} (hm : P.follows .mixedOrders = true) (hB : Region.lexB .any l.toArray = true)
    (h : wpQuiet P l.toArray (fun w' => ∃ X : Later w, w' = X.w) (fun a' => ∀ w', (∃ X : Later w, w' = X.w) → Q .normal a' w') l a) : (Code.region id l.toArray true).wp P Q a w :=
  wp_region_quiet (C := fun w' => ∃ X : Later w, w' = X.w) hm hB ⟨⟨{ w with drawn := w.drawn + 1 }, ⟨rfl, rfl, rfl, Nat.le_refl _, fun _ _ => rfl⟩⟩, rfl⟩ (by simpa using h)
theorem Later.cell {W : World} (X : Later W) (b o : Nat) (h : b < W.heap.size) : X.w.cell? ⟨b, o, none⟩ = W.cell? ⟨b, o, none⟩ := X.h.cell (p := ⟨b, o, none⟩) h
theorem Later.frozen {W : World} (X : Later W) (b o : Nat) (h : b < W.heap.size) : X.w.frozen? ⟨b, o, none⟩ = W.frozen? ⟨b, o, none⟩ := X.h.frozen (p := ⟨b, o, none⟩) h
attribute [go_sem] Later.cell Later.frozen
theorem Calls.later {P : Program} {f : FuncId} {args : Array Value} {W : World} {X : Later W} {v : Value} (h : Calls P f args X.w fun e w' => e = .returned v ∧ Below X.w.heap.size X.w w') :
    Calls P f args X.w fun e w'' => e = .returned v ∧ ∃ Y : Later W, w'' = Y.w :=
  h.mono fun _ w' ⟨he, hb⟩ => ⟨he, ⟨w', X.h.trans (hb.mono X.h.size)⟩, rfl⟩
theorem Calls.later_same {P : Program} {f : FuncId} {args : Array Value} {W : World} {X : Later W} {v : Value} (h : Calls P f args X.w fun e w' => e = .returned v ∧ X.w = w') :
    Calls P f args X.w fun e w'' => e = .returned v ∧ ∃ Y : Later W, w'' = Y.w :=
  h.mono fun _ _ ⟨he, hb⟩ => ⟨he, X, hb.symm⟩
end
end Go
/- A region that draws its order, with one operation among its first ones that makes a new row of cells: what the others yield does not hang on when it comes. -/
namespace Go
open Go.RowKit
structure Later2 {W : World} (Y : Later W) where
  w : World
  h : Below Y.w.heap.size Y.w w
instance {W : World} (Y : Later W) : Nonempty (Later2 Y) := ⟨⟨Y.w, Below.refl _ _⟩⟩
theorem Later2.below {W : World} {Y : Later W} (X : Later2 Y) : Below W.heap.size W X.w := Y.h.trans (X.h.mono Y.h.size)
theorem Later2.cell {W : World} {Y : Later W} (X : Later2 Y) (b o : Nat) (h : b < W.heap.size) : X.w.cell? ⟨b, o, none⟩ = W.cell? ⟨b, o, none⟩ := X.below.cell (p := ⟨b, o, none⟩) h
theorem Later2.frozen {W : World} {Y : Later W} (X : Later2 Y) (b o : Nat) (h : b < W.heap.size) : X.w.frozen? ⟨b, o, none⟩ = W.frozen? ⟨b, o, none⟩ := X.below.frozen (p := ⟨b, o, none⟩) h
attribute [go_sem] Later2.cell Later2.frozen
section
variable {P : Program} {ops : Array Oper} {C : World → Prop}
end
section
variable {P : Program} {l : List Oper} {n b : Nat} {ob : Oper} {W : World} {a0 A : Act} {bv : Nat → Value} {B : Nat → World → Prop} {Q : Exit → Act → World → Prop}
end
end Go
/- A region that draws its order, of whose head operations one calls a function that writes memory; the others only read, and read the same before and after the call. -/
namespace Go
open Go.RowKit
section
variable {P : Program} {l : List Oper} {n b : Nat} {ob : Oper} {W : World} {a0 A : Act} {D : Value → World → Prop} {fn : FuncId} {args : Array Value} {Q : Exit → Act → World → Prop}
structure Keep (W : World) (S : Nat → Nat → Prop) where
  w : World
  cells : ∀ b o, S b o → w.cell? ⟨b, o, none⟩ = W.cell? ⟨b, o, none⟩
structure Keep1 {W : World} {S : Nat → Nat → Prop} (X : Keep W S) where
  w : World
  h : w = X.w
instance {W : World} {S : Nat → Nat → Prop} (X : Keep W S) : Nonempty (Keep1 X) := ⟨⟨X.w, rfl⟩⟩
theorem Keep1.cell {W : World} {S : Nat → Nat → Prop} {X : Keep W S} (Y : Keep1 X) (b o : Nat) (h : S b o) : Y.w.cell? ⟨b, o, none⟩ = W.cell? ⟨b, o, none⟩ := by rw [Y.h]; exact X.cells b o h
attribute [go_sem] Keep1.cell
end
end Go
/- How values are read: cells from an address on, slices as lists; contracts of calls that only grow the world. -/
namespace Go.Proofs.YtpafjhjpchdcdaaGreatDoor
open Go Go.Proofs Go.RowKit
def Ret (v : Value) (w : World) (e : Ending) (w' : World) : Prop := e = .returned v ∧ Below w.heap.size w w'
theorem Ret.mk {v v' : Value} {w w' : World} (h : v' = v) (hb : Below w.heap.size w w') : Ret v w (.returned v') w' := ⟨by rw [h], hb⟩
def At (w : World) (b o : Nat) (vs : List Value) : Prop := ∀ j u, vs[j]? = some u → w.cell? ⟨b, o + j, none⟩ = some u
theorem At.below {w w' : World} {b o B : Nat} {vs : List Value} (h : At w b o vs) (hb : Below B w w') (hB : b < B) : At w' b o vs :=
  fun j u hu => (hb.cell (p := ⟨b, o + j, none⟩) hB).trans (h j u hu)
theorem At.c1 {w : World} {b o : Nat} {x : Value} (h : At w b o [x]) : w.cell? ⟨b, o, none⟩ = some x := h 0 x rfl
theorem At.c2 {w : World} {b o : Nat} {x y : Value} (h : At w b o [x, y]) : w.cell? ⟨b, o, none⟩ = some x ∧ w.cell? ⟨b, o + 1, none⟩ = some y := ⟨h 0 x rfl, h 1 y rfl⟩
def Sl {α : Type} (f : α → List Value) (sz : Nat) (w : World) (B : Nat) (v : Value) (l : List α) : Prop :=
  ∃ a c, v = .slice a l.length c ∧ (l.length ≤ 1000000000 ∧ l.length ≤ c) ∧ (0 < l.length → ∃ b off, a = some ⟨b, off, none⟩ ∧ b < B ∧
    ∀ i (h : i < l.length), At w b (off + i * sz) (f l[i]))
theorem Sl.below {α : Type} {f : α → List Value} {sz : Nat} {w w' : World} {B : Nat} {v : Value} {l : List α} (h : Sl f sz w B v l) (hb : Below B w w') : Sl f sz w' B v l := by
  obtain ⟨a, c, rfl, hl, h⟩ := h
  refine ⟨a, c, rfl, hl, fun h0 => ?_⟩
  obtain ⟨b, off, rfl, hB, hc⟩ := h h0
  exact ⟨b, off, rfl, hB, fun i hi => (hc i hi).below hb hB⟩
theorem Sl.mono {α : Type} {f : α → List Value} {sz : Nat} {w : World} {B B' : Nat} {v : Value} {l : List α} (h : Sl f sz w B v l) (hB' : B ≤ B') : Sl f sz w B' v l := by
  obtain ⟨a, c, rfl, hl, h⟩ := h
  refine ⟨a, c, rfl, hl, fun h0 => ?_⟩
  obtain ⟨b, off, rfl, hB, hc⟩ := h h0
  exact ⟨b, off, rfl, by omega, hc⟩
theorem Sl.later {α : Type} {f : α → List Value} {sz : Nat} {w w' : World} {v : Value} {l : List α} (h : Sl f sz w w.heap.size v l) (hb : Below w.heap.size w w') : Sl f sz w' w'.heap.size v l :=
  (h.below hb).mono hb.size
theorem Sl.nil {α : Type} (f : α → List Value) (sz : Nat) (w : World) (B c : Nat) (a : Option Addr) : Sl f sz w B (.slice a 0 c) [] := ⟨a, c, rfl, by simp, fun h => absurd h (by simp)⟩
theorem flat_get {α : Type} (f : α → List Value) (sz : Nat) (hf : ∀ x, (f x).length = sz) (l : List α) : ∀ (i : Nat) (h : i < l.length) (j : Nat), j < sz → (l.flatMap f)[i * sz + j]? = (f l[i])[j]? := by
  induction l with
  | nil => intro i h; simp at h
  | cons x l ih =>
    intro i h j hj
    rw [List.flatMap_cons]
    cases i with
    | zero => rw [List.getElem?_append_left (by rw [hf]; omega)]; simp
    | succ i =>
      rw [List.getElem?_append_right (by rw [hf, Nat.succ_mul]; omega), hf, show (i + 1) * sz + j - sz = i * sz + j by rw [Nat.succ_mul]; omega]
      simpa using ih i (by simpa using h) j hj
theorem flat_length {α : Type} (f : α → List Value) (sz : Nat) (hf : ∀ x, (f x).length = sz) (l : List α) : (l.flatMap f).length = l.length * sz := by
  induction l with
  | nil => simp
  | cons x l ih => rw [List.flatMap_cons, List.length_append, hf, ih, List.length_cons, Nat.succ_mul, Nat.add_comm]
theorem Sl.of_owns {α : Type} {f : α → List Value} {sz : Nat} {w : World} {base : Nat} {e : TypeId} {v : Value} {l : List α} (hf : ∀ x, (f x).length = sz) (hlen : l.length ≤ 1000000000)
    (h : w.ownsRow base e sz v l.length (l.flatMap f)) : Sl f sz w w.heap.size v l := by
  rcases h.2 with ⟨rfl, h0⟩ | ⟨g, cap, cur, rfl, _, hg, hcap, _⟩
  · obtain rfl : l = [] := List.eq_nil_of_length_eq_zero h0
    exact Sl.nil f sz w _ 0 none
  · refine ⟨_, cap, rfl, ⟨hlen, hcap⟩, fun _ => ⟨g, 0, rfl, (Array.getElem?_eq_some_iff.1 hg).1, fun i hi j u hu => ?_⟩⟩
    have hj : j < sz := by have := (List.getElem?_eq_some_iff.1 hu).1; rwa [hf] at this
    rw [show 0 + i * sz + j = i * sz + j by omega, h.cellAt (i * sz + j) (by have : (i + 1) * sz ≤ l.length * sz := Nat.mul_le_mul_right _ hi; rw [Nat.succ_mul] at this; omega), flat_get f sz hf l i hi j hj]
    exact hu
theorem Sl.lit {α : Type} {f : α → List Value} {sz : Nat} (hf : ∀ x, (f x).length = sz) (l : List α) (w : World) (cs : Array Value) (e : TypeId) (n : Nat) (hn : n = l.length) (hcs : cs.toList = l.flatMap f) (hlen : l.length ≤ 1000000000) :
    Sl f sz (w.alloc (.cells cs e)) (w.alloc (.cells cs e)).heap.size (.slice (some ⟨w.heap.size, 0, none⟩) n n) l := by
  subst hn
  have h := World.ownsRow_lit (base := 0) (e := e) (size := sz) w cs l.length (by omega) (by simp [maxLen]; omega) (by rw [← Array.length_toList, hcs, flat_length f sz hf])
  rw [hcs] at h
  exact Sl.of_owns hf hlen h
def encI (n : Int) : List Value := [.int .i64 n]
theorem encI_len (n : Int) : (encI n).length = 1 := rfl
structure Rg where
  lo : Int
  hi : Int
  deriving DecidableEq, Repr, Inhabited
def Rg.enc (r : Rg) : List Value := [.int .i64 r.lo, .int .i64 r.hi]
theorem Rg.enc_len (r : Rg) : r.enc.length = 2 := rfl
def Box (w : World) (b : Nat) (e : TypeId) (vs : List Value) : Prop := w.heap[b]? = some (.cells vs.toArray e (0, 0))
theorem Box.cell {w : World} {b : Nat} {e : TypeId} {vs : List Value} (h : Box w b e vs) (j : Nat) : w.cell? ⟨b, j, none⟩ = vs[j]? := by
  rw [cell_of_row w b j _ e (0, 0) h]; simp
theorem Box.frozen {w : World} {b : Nat} {e : TypeId} {vs : List Value} (h : Box w b e vs) (o : Nat) : w.frozen? ⟨b, o, none⟩ = false := frozen_of_row w b o _ e h
theorem Box.lt {w : World} {b : Nat} {e : TypeId} {vs : List Value} (h : Box w b e vs) : b < w.heap.size := (Array.getElem?_eq_some_iff.1 h).1
theorem Box.new (w : World) (cs : Array Value) (e : TypeId) : Box (w.alloc (.cells cs e)) w.heap.size e cs.toList := by
  unfold Box; rw [heap_alloc_new]
theorem Box.newAt (w : World) (cs : Array Value) (e : TypeId) {n : Nat} (h : w.heap.size = n) : Box (w.alloc (.cells cs e)) n e cs.toList := by subst h; exact Box.new w cs e
theorem Box.alloc {w : World} {b : Nat} {e : TypeId} {vs : List Value} (h : Box w b e vs) (o : Obj) : Box (w.alloc o) b e vs := by
  unfold Box; rw [heap_alloc_old w o h.lt]; exact h
theorem Box.drew {w : World} {b : Nat} {e : TypeId} {vs : List Value} (h : Box w b e vs) : Box w.drew b e vs := h
theorem Box.below {w w' : World} {b B : Nat} {e : TypeId} {vs : List Value} (h : Box w b e vs) (hb : Below B w w') (hB : b < B) : Box w' b e vs := (hb.block b hB).trans h
theorem Box.later {w w' : World} {b : Nat} {e : TypeId} {vs : List Value} (h : Box w b e vs) (hb : Below w.heap.size w w') : Box w' b e vs := h.below hb h.lt
theorem Box.set {w : World} {b : Nat} {e : TypeId} {vs : List Value} (h : Box w b e vs) (j : Nat) (u : Value) : Box (w.setCell ⟨b, j, none⟩ u) b e (vs.set j u) := by
  unfold Box; rw [heap_setCell_same w b j _ e u h]; simp
theorem Box.other {w : World} {b : Nat} {e : TypeId} {vs : List Value} (h : Box w b e vs) {a : Addr} (u : Value) (hne : a.block ≠ b) : Box (w.setCell a u) b e vs := by
  unfold Box; rw [heap_setCell_other w a b u (Ne.symm hne)]; exact h
theorem Box.kept {w w' : World} {b : Nat} {e : TypeId} {vs : List Value} {row : Option Nat} (h : Box w b e vs) (hg : w.grownBy w' row) (hne : some b ≠ row) : Box w' b e vs := (hg.block b h.lt hne).trans h
theorem Box.v1 {w : World} {b : Nat} {e : TypeId} {x : Value} (h : Box w b e [x]) : w.cell? ⟨b, 0, none⟩ = some x ∧ (∀ o, w.frozen? ⟨b, o, none⟩ = false) ∧ b < w.heap.size := ⟨h.cell 0, h.frozen, h.lt⟩
theorem Box.v2 {w : World} {b : Nat} {e : TypeId} {x y : Value} (h : Box w b e [x, y]) : w.cell? ⟨b, 0, none⟩ = some x ∧ w.cell? ⟨b, 1, none⟩ = some y ∧ (∀ o, w.frozen? ⟨b, o, none⟩ = false) ∧ b < w.heap.size :=
  ⟨h.cell 0, h.cell 1, h.frozen, h.lt⟩
end Go.Proofs.YtpafjhjpchdcdaaGreatDoor
/- Slices that a call owns, element by element: one more element, another element in a place. -/
namespace Go.Proofs.YtpafjhjpchdcdaaGreatDoor
open Go Go.Proofs Go.RowKit
def Own {α : Type} (f : α → List Value) (sz : Nat) (e : TypeId) (w : World) (base : Nat) (v : Value) (l : List α) : Prop := w.ownsRow base e sz v l.length (l.flatMap f)
section
variable {α : Type} {f : α → List Value} {sz : Nat} {e : TypeId} {w w' : World} {base : Nat} {v : Value} {l : List α}
theorem Own.nil (f : α → List Value) (sz : Nat) (e : TypeId) (w : World) (base : Nat) : Own f sz e w base (.slice none 0 0) [] := World.ownsRow_nil w base e sz
theorem Own.drewN (h : Own f sz e w base v l) (n : Nat) : Own f sz e (w.drewN n) base v l := h
theorem Own.drew (h : Own f sz e w base v l) : Own f sz e w.drew base v l := h
theorem Own.alloc (h : Own f sz e w base v l) (o : Obj) : Own f sz e (w.alloc o) base v l := World.ownsRow.alloc h o
theorem Own.kept {row : Option Nat} (h : Own f sz e w base v l) (hg : w.grownBy w' row) (hne : v.ownBlock = none ∨ v.ownBlock ≠ row) : Own f sz e w' base v l := World.ownsRow.kept h hg hne
theorem Own.ne (h : Own f sz e w base v l) {b : Nat} (hb : b < base) : some b ≠ v.ownBlock := fun h2 => by
  have := (World.ownsRow.lt h b h2.symm).1
  omega
theorem Own.later (h : Own f sz e w base v l) (hb : Below w.heap.size w w') : Own f sz e w' base v l := by
  refine h.kept (row := none) ⟨hb.os, hb.tape, hb.output, hb.size, fun k hk _ => hb.block k hk⟩ ?_
  cases v.ownBlock <;> simp
theorem Own.other (h : Own f sz e w base v l) {a : Addr} (u : Value) (hne : v.ownBlock ≠ some a.block) : Own f sz e (w.setCell a u) base v l := ownsRow_setCell_other h hne u
theorem Own.below (h : Own f sz e w base v l) {a : Addr} (u : Value) (hne : a.block < base) : Own f sz e (w.setCell a u) base v l := h.other u (fun h2 => h.ne hne h2.symm)
theorem Own.form (h : Own f sz e w base v l) (hn : 0 < l.length) : ∃ g cap, v = .slice (some ⟨g, 0, none⟩) l.length cap ∧ base ≤ g ∧ g < w.heap.size := by
  rcases h.2 with ⟨_, h0⟩ | ⟨g, cap, cur, hv, hb, hg, _⟩
  · omega
  · exact ⟨g, cap, hv, hb, (Array.getElem?_eq_some_iff.1 hg).1⟩
theorem Own.shape (h : Own f sz e w base v l) : ∃ a cap, v = .slice a l.length cap := by
  rcases h.2 with ⟨hv, h0⟩ | ⟨g, cap, cur, hv, _⟩
  · exact ⟨none, 0, by rw [hv, h0]⟩
  · exact ⟨_, cap, hv⟩
theorem Own.at {g cap : Nat} (h : Own f sz e w base (.slice (some ⟨g, 0, none⟩) l.length cap) l) (hf : ∀ x, (f x).length = sz) (i : Nat) (hi : i < l.length) : At w g (i * sz) (f l[i]) := fun j u hu => by
  have hj : j < sz := by have := (List.getElem?_eq_some_iff.1 hu).1; rwa [hf] at this
  rw [World.ownsRow.cellAt h (i * sz + j) (by have : (i + 1) * sz ≤ l.length * sz := Nat.mul_le_mul_right _ hi; rw [Nat.succ_mul] at this; omega), flat_get f sz hf l i hi j hj]
  exact hu
theorem Own.frozen {g cap : Nat} (h : Own f sz e w base (.slice (some ⟨g, 0, none⟩) l.length cap) l) (o : Nat) : w.frozen? ⟨g, o, none⟩ = false := World.ownsRow.frozenAt h o
theorem flat_set (hf : ∀ x, (f x).length = sz) (l : List α) : ∀ (i : Nat) (hi : i < l.length) (j : Nat) (_ : j < sz) (u : Value) (y : α), f y = (f l[i]).set j u → (l.flatMap f).set (i * sz + j) u = (l.set i y).flatMap f := by
  induction l with
  | nil => intro i hi; simp at hi
  | cons x l ih =>
    intro i hi j hj u y hy
    cases i with
    | zero =>
      simp only [List.getElem_cons_zero] at hy
      simp only [List.flatMap_cons, List.set_cons_zero, Nat.zero_mul, Nat.zero_add, hy]
      rw [List.set_append_left _ _ (by rw [hf]; exact hj)]
    | succ i =>
      simp only [List.getElem_cons_succ] at hy
      simp only [List.flatMap_cons, List.set_cons_succ]
      rw [List.set_append_right _ _ (by rw [hf, Nat.succ_mul]; omega), hf, show (i + 1) * sz + j - sz = i * sz + j by rw [Nat.succ_mul]; omega, ih i (by simpa using hi) j hj u y hy]
theorem Own.set {g cap : Nat} (h : Own f sz e w base (.slice (some ⟨g, 0, none⟩) l.length cap) l) (hf : ∀ x, (f x).length = sz) (i : Nat) (hi : i < l.length) (j : Nat) (hj : j < sz) (u : Value) (y : α) (hy : f y = (f l[i]).set j u) :
    Own f sz e (w.setCell ⟨g, i * sz + j, none⟩ u) base (.slice (some ⟨g, 0, none⟩) l.length cap) (l.set i y) := by
  have := (World.ownsRow.stored h (i * sz + j) u).1
  unfold Own
  rw [List.length_set, ← flat_set hf l i hi j hj u y hy]
  exact this
end
theorem Own.lit {α : Type} {f : α → List Value} {sz : Nat} (hf : ∀ x, (f x).length = sz) (e : TypeId) (l : List α) (w : World) (cs : Array Value) (n : Nat) (base : Nat) (hn : n = l.length) (hcs : cs.toList = l.flatMap f) (hlen : l.length ≤ 1000000000) (hb : base ≤ w.heap.size) :
    Own f sz e (w.alloc (.cells cs e)) base (.slice (some ⟨w.heap.size, 0, none⟩) n n) l := by
  subst hn
  have h := World.ownsRow_lit (base := base) (e := e) (size := sz) w cs l.length hb (by simp [maxLen]; omega) (by rw [← Array.length_toList, hcs, flat_length f sz hf])
  rw [hcs] at h
  exact h
end Go.Proofs.YtpafjhjpchdcdaaGreatDoor
/- Slices that a call owns, more: joins, copies, lists of lists; what a call keeps. -/
namespace Go.Proofs.YtpafjhjpchdcdaaGreatDoor
open Go Go.Proofs Go.RowKit
structure Kept (S : Nat → Prop) (w w' : World) : Prop where
  os : w'.os = w.os
  tape : w'.tape = w.tape
  output : w'.output = w.output
  size : w.heap.size ≤ w'.heap.size
  block : ∀ k, k < w.heap.size → ¬ S k → w'.heap[k]? = w.heap[k]?
theorem Kept.refl (S : Nat → Prop) (w : World) : Kept S w w := ⟨rfl, rfl, rfl, Nat.le_refl _, fun _ _ _ => rfl⟩
theorem Kept.trans {S : Nat → Prop} {a b c : World} (h : Kept S a b) (k : Kept S b c) : Kept S a c :=
  ⟨k.os.trans h.os, k.tape.trans h.tape, k.output.trans h.output, Nat.le_trans h.size k.size, fun i hi hn => (k.block i (Nat.lt_of_lt_of_le hi h.size) hn).trans (h.block i hi hn)⟩
theorem Kept.grown {S : Nat → Prop} {w a b : World} {row : Option Nat} (h : Kept S w a) (hg : a.grownBy b row) (hr : ∀ k, row = some k → S k ∨ w.heap.size ≤ k) : Kept S w b :=
  ⟨hg.os.trans h.os, hg.tape.trans h.tape, hg.output.trans h.output, Nat.le_trans h.size hg.size, fun i hi hn => (hg.block i (Nat.lt_of_lt_of_le hi h.size) (fun e => by
    rcases hr i e.symm with h1 | h1
    · exact hn h1
    · omega)).trans (h.block i hi hn)⟩
theorem Kept.alloc {S : Nat → Prop} {w a : World} (h : Kept S w a) (o : Obj) : Kept S w (a.alloc o) := h.grown (World.grownBy_alloc a o none) (fun k e => by cases e)
theorem Kept.below {S : Nat → Prop} {w a b : World} (h : Kept S w a) (hb : Below a.heap.size a b) : Kept S w b :=
  h.grown (row := none) ⟨hb.os, hb.tape, hb.output, hb.size, fun k hk _ => hb.block k hk⟩ (fun k e => by cases e)
theorem grownBy_set (w : World) (a : Addr) (u : Value) : w.grownBy (w.setCell a u) (some a.block) :=
  ⟨rfl, rfl, rfl, by simp [World.setCell], fun k _ hk => heap_setCell_other w a k u (fun e => hk (by rw [e]))⟩
theorem Kept.set {S : Nat → Prop} {w a : World} (h : Kept S w a) {p : Addr} (u : Value) (hp : S p.block ∨ w.heap.size ≤ p.block) : Kept S w (a.setCell p u) :=
  h.grown (grownBy_set a p u) (fun k e => by cases e; exact hp)
theorem Kept.drew {S : Nat → Prop} {w a : World} (h : Kept S w a) : Kept S w a.drew := ⟨h.os, h.tape, h.output, h.size, h.block⟩
theorem Box.grown {w w' : World} {b : Nat} {e : TypeId} {vs : List Value} {row : Option Nat} (h : Box w b e vs) (hg : w.grownBy w' row) (hne : some b ≠ row) : Box w' b e vs := h.kept hg hne
theorem Box.keeps {S : Nat → Prop} {w w' : World} {k : Nat} {e : TypeId} {vs : List Value} (h : Box w k e vs) (hk : Kept S w w') (hn : ¬ S k) : Box w' k e vs := (hk.block k h.lt hn).trans h
theorem Own.keeps {α : Type} {f : α → List Value} {sz : Nat} {e : TypeId} {w w' : World} {base : Nat} {v : Value} {l : List α} {S : Nat → Prop} (h : Own f sz e w base v l) (hk : Kept S w w') (hn : ∀ k, v.ownBlock = some k → ¬ S k) : Own f sz e w' base v l := by
  have h0 := h
  obtain ⟨h1, h2⟩ := h
  refine ⟨h1, ?_⟩
  rcases h2 with h2 | ⟨g, cap, cur, h2, h3, h4, h5⟩
  · exact .inl h2
  · have hg : g < w.heap.size := (Array.getElem?_eq_some_iff.1 h4).1
    refine .inr ⟨g, cap, cur, h2, h3, ?_, h5⟩
    rw [hk.block g hg (hn g (by rw [h2]; rfl))]; exact h4
theorem Own.two_types {α β : Type} {f : α → List Value} {f' : β → List Value} {sz sz' : Nat} {e e' : TypeId} {w : World} {base base' : Nat} {v v' : Value} {l : List α} {l' : List β} (h : Own f sz e w base v l) (h' : Own f' sz' e' w base' v' l') (hne : e' ≠ e) :
    ∀ k, v.ownBlock = some k → v'.ownBlock ≠ some k := fun k hk hk' => by
  rcases h'.2 with ⟨rfl, _⟩ | ⟨g, cap, cur, rfl, _, hg, _⟩
  · simp [Value.ownBlock] at hk'
  · obtain rfl : g = k := by simpa [Value.ownBlock] using hk'
    rcases h.2 with ⟨rfl, _⟩ | ⟨g', cap', cur', rfl, _, hg', _⟩
    · simp [Value.ownBlock] at hk
    · obtain rfl : g' = g := by simpa [Value.ownBlock] using hk
      rw [hg] at hg'
      cases hg'
      exact hne rfl
theorem Own.lower {α : Type} {f : α → List Value} {sz : Nat} {e : TypeId} {w : World} {base base' : Nat} {v : Value} {l : List α} (h : Own f sz e w base v l) (hB : base' ≤ base) : Own f sz e w base' v l := by
  obtain ⟨h1, h2⟩ := h
  refine ⟨h1, ?_⟩
  rcases h2 with h2 | ⟨g, cap, cur, h2, h3, h4⟩
  · exact .inl h2
  · exact .inr ⟨g, cap, cur, h2, Nat.le_trans hB h3, h4⟩
theorem Own.take {α : Type} {f : α → List Value} {sz : Nat} {e : TypeId} {w : World} {base g cap : Nat} {l l' : List α} (hf : ∀ x, (f x).length = sz) (h : Own f sz e w base (.slice (some ⟨g, 0, none⟩) (l ++ l').length cap) (l ++ l')) :
    Own f sz e w base (.slice (some ⟨g, 0, none⟩) l.length cap) l := by
  obtain ⟨h1, h2⟩ := h
  refine ⟨flat_length f sz hf l, ?_⟩
  rcases h2 with ⟨h2, _⟩ | ⟨g', cap', cur, h2, h3, h4, h5, h6, h7, h8⟩
  · cases h2
  · simp only [Value.slice.injEq, Option.some.injEq, Addr.mk.injEq, and_true, true_and] at h2
    obtain ⟨rfl, rfl⟩ := h2
    refine .inr ⟨g, cap, cur, rfl, h3, h4, by simp at h5; omega, h6, h7, ?_⟩
    have e := congrArg (List.take (l.length * sz)) h8
    have hle : l.length * sz ≤ (l ++ l').length * sz := Nat.mul_le_mul_right _ (by simp)
    have hl := flat_length f sz hf l
    rw [List.take_take, Nat.min_eq_left hle, List.flatMap_append, List.take_append_of_le_length (by omega), List.take_of_length_le (l := l.flatMap f) (by omega)] at e
    exact e
theorem take_snoc {α : Type} (l : List α) (k : Nat) (h : k < l.length) : l.take (k + 1) = l.take k ++ [l[k]] := by
  rw [List.take_succ_eq_append_getElem h]
theorem getD_at (ms : List Int) (i : Nat) (h : i < ms.length) : ms.getD i 0 = ms[i] := by rw [List.getD_eq_getElem?_getD, List.getElem?_eq_getElem h]; rfl
theorem wpList_mk1 {α : Type} (f : α → List Value) (x0 : α) (z : Value) (hz : f x0 = [z]) (t e : TypeId) (bytes : Nat) {P : Program} (hT : P.underlying t = some (.slice e)) (hI : (P.info? e).map (fun i => (i.zero, i.size, i.bytes)) = some (some z, 1, bytes)) (hzc : z.cells = #[z])
    (hby : bytes ≤ 1000) (base : Nat) (w : World) (n : Nat) (hn : n ≤ 1000000) (hb : base ≤ w.heap.size)
    {ops : Array Oper} {rest : List Oper} {o : Oper} {a : Act} {Q : Exit → Act → World → Prop} (hg : o.guard = none) (l c : Operand) (hop : o.op = Op.makeSlice t l c) (kl kc : IntKind) (hl : a.eval l = .int kl n) (hc : a.eval c = .int kc n)
    (h : ∀ w', Own f 1 e w' base (.slice (some ⟨w.heap.size, 0, none⟩) n n) (List.replicate n x0) → w.grownBy w' none → wpList P ops Q rest (a.put o.dst (.slice (some ⟨w.heap.size, 0, none⟩) n n)) w') : wpList P ops Q (o :: rest) a w := by
  obtain ⟨i, hi, h0, h1, h2⟩ := info_parts hI
  have hmul : bytes * n ≤ 1000 * 1000000 := Nat.mul_le_mul hby hn
  refine wpList_make_full w hg l c t hop base e i z 1 hT hi h0 h1 kl kc _ _ n hl hc rfl rfl (by rw [h2]; omega) (by unfold maxLen; omega) hb ?_
  intro w' how hgr
  refine h w' ?_ hgr
  unfold Own
  rw [hzc, Nat.mul_one, toList_madeCells_one] at how
  have : (List.replicate n x0).flatMap f = List.replicate n z := by
    clear how hmul h hl hc hn
    induction n with
    | zero => rfl
    | succ n ih => rw [List.replicate_succ, List.flatMap_cons, ih, hz, List.replicate_succ]; rfl
  rw [this, List.length_replicate]
  exact how
theorem grown_none_below {w w' : World} (h : w.grownBy w' none) : Below w.heap.size w w' := (Below.refl _ _).grown h (Nat.le_refl _) (fun k hk => by cases hk)
theorem wpList_cat {α : Type} (f : α → List Value) (sz bytes : Nat) (t e : TypeId) (z : Value) {P : Program} (hT : P.underlying t = some (.slice e)) (hI : (P.info? e).map (fun i => (i.zero, i.size, i.bytes)) = some (some z, sz, bytes))
    (hzs : z.cells.size = sz) (hsz : 0 < sz) (hby : bytes ≤ 1000) (hf : ∀ x, (f x).length = sz) (h1c : ∀ x, ∀ u ∈ f x, u.oneCell' = true)
    (l l2 : List α) (base : Nat) (w : World) (v : Value) (hown : Own f sz e w base v l) (hbase : base ≤ w.heap.size) (hlen : l.length + l2.length ≤ 2000000000) (p : Addr) (c : Nat)
    (hat : ∀ i (h : i < l2.length), ∀ j u, (f l2[i])[j]? = some u → w.cell? (p.add (i * sz + j)) = some u)
    {ops : Array Oper} {rest : List Oper} {o : Oper} {a : Act} {Q : Exit → Act → World → Prop} (hgd : o.guard = none) (s y : Operand)
    (ho : o.op = .call { callee := .builtin .append, args := #[s, y], argTypes := #[t, t] }) (hs : a.eval s = v) (hy : a.eval y = .slice (some p) l2.length c)
    (h : ∀ v' w', Own f sz e w' base v' (l ++ l2) → w.grownBy w' v.ownBlock → wpList P ops Q rest (a.put o.dst v') w') : wpList P ops Q (o :: rest) a w := by
  obtain ⟨i, hi, hz0, hz1, hz2⟩ := info_parts hI
  have hmul : (l.length + l2.length) * bytes ≤ 2000000000 * 1000 := Nat.mul_le_mul hlen hby
  refine wpList_append_own _ hgd s y t ho base e i z sz bytes hT hi hz0 hz1 hz2 hzs hsz v l.length _ hs hown p l2.length c (l2.flatMap f) hy (flat_length f sz hf l2) ?_ ?_ (by simp [maxLen]; omega) (by omega) hbase ?_
  · intro j u hu
    have hj : j < l2.length * sz := by rw [← flat_length f sz hf l2]; exact (List.getElem?_eq_some_iff.1 hu).1
    have hd : j / sz < l2.length := (Nat.div_lt_iff_lt_mul hsz).2 hj
    have hm := Nat.div_add_mod j sz
    rw [Nat.mul_comm] at hm
    have h2 := flat_get f sz hf l2 (j / sz) hd (j % sz) (Nat.mod_lt _ hsz)
    rw [hm, hu] at h2
    have h3 := hat (j / sz) hd (j % sz) u h2.symm
    rwa [hm] at h3
  · intro u hu
    obtain ⟨x, _, hx⟩ := List.mem_flatMap.1 hu
    exact h1c x u hx
  · intro v' w' h1 h2 _
    refine h v' w' ?_ h2
    unfold Own
    rw [List.length_append, List.flatMap_append]
    exact h1
theorem row_here {w : World} {cs : Array Value} {e : TypeId} {g : Nat} (hg : w.heap.size = g) : (w.alloc (.cells cs e)).heap[g]? = some (.cells cs e (0, 0)) := by
  subst hg; exact Box.new w cs e
structure Hd where
  a : Option Addr
  n : Nat
  c : Nat
def Hd.v (h : Hd) : Value := .slice h.a h.n h.c
def Hd.enc (h : Hd) : List Value := [h.v]
theorem Hd.enc_len (h : Hd) : h.enc.length = 1 := rfl
theorem Hd.enc_one (h : Hd) : ∀ u ∈ h.enc, u.oneCell' = true := by intro u hu; simp [Hd.enc] at hu; subst hu; rfl
def LLR (w : World) (base bi : Nat) (v : Value) (LL : List (List Int)) : Prop :=
  ∃ HH : List Hd, Own Hd.enc 1 22 w base v HH ∧ HH.length = LL.length ∧ ∀ i (h : i < HH.length) (h2 : i < LL.length), Own encI 1 3 w bi HH[i].v LL[i]
theorem LLR.later {w w' : World} {base bi : Nat} {v : Value} {LL : List (List Int)} (h : LLR w base bi v LL) (hb : Below w.heap.size w w') : LLR w' base bi v LL := by
  obtain ⟨HH, h1, h2, h3⟩ := h
  exact ⟨HH, h1.later hb, h2, fun i k1 k2 => (h3 i k1 k2).later hb⟩
theorem LLR.nil (w : World) (base bi : Nat) : LLR w base bi (.slice none 0 0) [] := ⟨[], Own.nil _ _ _ _ _, rfl, fun i h => absurd h (by simp)⟩
theorem LLR.push {w w' : World} {base bi : Nat} {v v' : Value} {LL : List (List Int)} {HH : List Hd} {h : Hd} {l : List Int} (h2 : HH.length = LL.length) (h3 : ∀ i (h : i < HH.length) (h2 : i < LL.length), Own encI 1 3 w bi HH[i].v LL[i])
    (hl : Own encI 1 3 w bi h.v l) (hv : Own Hd.enc 1 22 w base v HH) (ho : Own Hd.enc 1 22 w' base v' (HH ++ [h])) (hg : w.grownBy w' v.ownBlock) : LLR w' base bi v' (LL ++ [l]) := by
  refine ⟨HH ++ [h], ho, by simp [h2], fun i k1 k2 => ?_⟩
  have kept : ∀ (q : Value) (l : List Int), Own encI 1 3 w bi q l → Own encI 1 3 w' bi q l := by
    intro q l hq
    refine hq.kept hg ?_
    rcases hqo : q.ownBlock with _ | k
    · exact .inl rfl
    · exact .inr fun e => hq.two_types hv (by decide) k hqo e.symm
  by_cases hi : i < HH.length
  · have e1 : (HH ++ [h])[i] = HH[i] := List.getElem_append_left hi
    have e2 : (LL ++ [l])[i] = LL[i]'(by omega) := List.getElem_append_left (by omega)
    rw [e1, e2]
    exact kept _ _ (h3 i hi (by omega))
  · simp at k1 k2
    have hi2 : i = HH.length := by omega
    subst hi2
    have e1 : (HH ++ [h])[HH.length]'(by simp) = h := by simp
    have e2 : (LL ++ [l])[HH.length]'(by simp; omega) = l := by simp [h2]
    rw [e1, e2]
    exact kept _ _ hl
theorem LLR.lower {w : World} {base base' bi bi' : Nat} {v : Value} {LL : List (List Int)} (h : LLR w base bi v LL) (h1 : base' ≤ base) (h2 : bi' ≤ bi) : LLR w base' bi' v LL := by
  obtain ⟨HH, k1, k2, k3⟩ := h
  exact ⟨HH, k1.lower h1, k2, fun i q1 q2 => (k3 i q1 q2).lower h2⟩
section
variable {α : Type} {f : α → List Value} {sz : Nat} {e : TypeId} {w w' : World} {base : Nat} {v : Value} {l : List α}
theorem Own.atN {g n cap : Nat} (h : Own f sz e w base (.slice (some ⟨g, 0, none⟩) n cap) l) (hn : l.length = n) (hf : ∀ x, (f x).length = sz) (i : Nat) (hi : i < l.length) : At w g (i * sz) (f l[i]) := by subst hn; exact h.at hf i hi
theorem Own.frozenN {g n cap : Nat} (h : Own f sz e w base (.slice (some ⟨g, 0, none⟩) n cap) l) (hn : l.length = n) (o : Nat) : w.frozen? ⟨g, o, none⟩ = false := by subst hn; exact h.frozen o
theorem Own.setN {g n cap : Nat} (h : Own f sz e w base (.slice (some ⟨g, 0, none⟩) n cap) l) (hn : l.length = n) (hf : ∀ x, (f x).length = sz) (i : Nat) (hi : i < l.length) (j : Nat) (hj : j < sz) (u : Value) (y : α) (hy : f y = (f l[i]).set j u) :
    Own f sz e (w.setCell ⟨g, i * sz + j, none⟩ u) base (.slice (some ⟨g, 0, none⟩) n cap) (l.set i y) := by subst hn; exact h.set hf i hi j hj u y hy
end
end Go.Proofs.YtpafjhjpchdcdaaGreatDoor
