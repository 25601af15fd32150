/- Short names. -/
import Derived.Lib.Hide
import Derived.Below
import Derived.KernelRfl
namespace Go
theorem Zh {p : Prop} (h : p) : RowKit.Hid p := Lib.hid h
theorem RowKit.Below.Zg {w w1 w2 : World} (h : RowKit.Below w.heap.size w w1) (hb : RowKit.Below w1.heap.size w1 w2) : RowKit.Below w.heap.size w w2 := h.trans (hb.mono h.size)
theorem RowKit.Below.Zs {B : Nat} {w w' : World} {a : Addr} (h : RowKit.Below B w w') (v : Value) (hb : B ≤ a.block := by first | (dsimp only; omega) | (simp; done) | (simp; omega)) : RowKit.Below B w (w'.setCell a v) := h.setCell hb v
theorem RowKit.Below.Za {B : Nat} {w w' : World} (h : RowKit.Below B w w') (o : Obj) (hb : B ≤ w'.heap.size := by first | omega | (simp; done) | (simp; omega)) : RowKit.Below B w (w'.alloc o) := h.alloc hb o
theorem Zr {i : Nat} {f : Nat → Bool} {R : Nat → Prop} (h : ∀ j, j < i → f j = false → R j) (j : Nat) (h1 : j < i := by decide) (h2 : f j = false := by kernel_rfl) : R j := h j h1 h2
theorem Zc {α : Type} {o : Option α} {a b : α} (h : o = some a) (e : a = b := by kernel_rfl) : o = some b := h.trans (congrArg some e)
theorem Zn {a b : Nat} (h : a ≠ b) : some a ≠ some b := fun e => h (Option.some.inj e)
theorem Zf {p : Prop} [Decidable p] (h : ¬p) : decide p = false := decide_eq_false h
theorem Zt {p : Prop} [Decidable p] (h : p) : decide p = true := decide_eq_true h
theorem Z1 {α : Type} (l : List α) (i : Nat) (a : α) : l.toArray.setIfInBounds i a = (l.set i a).toArray := List.setIfInBounds_toArray l i a
theorem Z2 {α : Type} (a : α) (l : List α) (i : Nat) : (a :: l).take (i + 1) = a :: l.take i := List.take_succ_cons
theorem Z3 {α : Type} (a : α) (l : List α) (i : Nat) : (a :: l).drop (i + 1) = l.drop i := List.drop_succ_cons
theorem Z4 {α : Type} (a b : α) (l : List α) (i : Nat) : (a :: l).set (i + 1) b = a :: l.set i b := List.set_cons_succ
theorem Z5 {α : Type} (a b : α) (l : List α) : (a :: l).set 0 b = b :: l := List.set_cons_zero
theorem Z6 {α : Type} (l : List α) : l.take 0 = [] := List.take_zero
theorem Z7 {α : Type} (l : List α) : l.drop 0 = l := List.drop_zero
end Go
