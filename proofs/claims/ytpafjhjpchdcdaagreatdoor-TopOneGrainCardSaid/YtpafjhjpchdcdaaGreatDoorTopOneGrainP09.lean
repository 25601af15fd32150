/- Lemmas on the way to the law TopOneGrain (part 9): NDa NDb NDc NDf NEa NEb NShA NDd NDe -/
import Derived.Lib.Hide
import Derived.Test.YtpafjhjpchdcdaaGreatDoorTopOneGrainP08
import Derived.BigQuiet
import Derived.StillTail
import Derived.WalkKit
import Derived.WalkSpells
import Derived.WalkLawsBesides
import Derived.Test.YtpafjhjpchdcdaaGreatDoorProg
import Derived.IntWalk
import Derived.RegionTactic
import Derived.BigRegion
import Derived.Shelf.Strings.Builder1
import Derived.Shelf.Strings.Builder2
import Derived.Shelf.Strings.Trim
import Derived.Shelf.Small.Utf8
import Derived.Shelf.Small.Bits
import Derived.Shelf.Small.Strs
import Derived.Shelf.Strings.BuilderF
import Derived.Shelf.Strings.BuilderK
import Derived.Shelf.Strconv.Atoi
import Derived.Shelf.Strconv.Itoa0
import Derived.Shelf.Strconv.Itoa1
import Derived.Shelf.LaysM
import Derived.Shelf.Strconv.Itoa2
import Derived.Shelf.Strconv.Itoa3
import Derived.Shelf.Strings.Search1
import Derived.Shelf.Strings.Search2
import Derived.Shelf.Strings.Cut
import Derived.Shelf.Strings.Shaped
import Derived.Shelf.Strings.Prefix
import Derived.Shelf.Unicode.Decode
import Derived.Shelf.Strings.Runes
import Derived.Shelf.Strings.AsciiSet
import Derived.Shelf.Bits.Mul64
import Derived.Shelf.Strings.Repeat
import Derived.Shelf.Unicode.DecodeSlow
import Derived.Shelf.Unicode.DecodeAny
import Derived.Shelf.Unicode.DecodeLast
import Derived.Lib.ItoaNum
set_option linter.unusedVariables false
set_option linter.unusedSimpArgs false

/- Plain: lists of digits to a base, the least significant one first. -/
namespace Go.Proofs.YtpafjhjpchdcdaaGreatDoor
def val (B : Nat) : List Nat → Nat
  | [] => 0
  | x :: r => x + B * val B r
def Dg (B : Nat) (l : List Nat) : Prop := ∀ x ∈ l, x < B
def Tr (l : List Nat) : Prop := l.getLast? ≠ some 0
theorem Dg.nil (B : Nat) : Dg B [] := fun _ h => absurd h (by simp)
theorem Dg.take {B : Nat} {a : List Nat} (ha : Dg B a) (k : Nat) : Dg B (a.take k) := fun x hx => ha x (List.mem_of_mem_take hx)
theorem Dg.drop {B : Nat} {a : List Nat} (ha : Dg B a) (k : Nat) : Dg B (a.drop k) := fun x hx => ha x (List.mem_of_mem_drop hx)
theorem Dg.get {B : Nat} {a : List Nat} (ha : Dg B a) (i : Nat) (h : i < a.length) : a[i] < B := ha _ (List.getElem_mem h)
theorem Dg.set {B : Nat} {a : List Nat} (ha : Dg B a) (i : Nat) {y : Nat} (h : y < B) : Dg B (a.set i y) := fun x hx => by
  rcases List.mem_or_eq_of_mem_set hx with h1 | h1
  · exact ha x h1
  · rw [h1]; exact h
theorem val_app (B : Nat) (a b : List Nat) : val B (a ++ b) = val B a + B ^ a.length * val B b := by
  induction a with
  | nil => simp [val]
  | cons x a ih =>
    rw [List.cons_append, List.length_cons]
    show x + B * val B (a ++ b) = (x + B * val B a) + _
    rw [ih, Nat.pow_succ, Nat.mul_add, Nat.mul_comm (B ^ a.length) B, Nat.mul_assoc, Nat.add_assoc]
theorem val_one (B x : Nat) : val B [x] = x := by simp [val]
theorem val_zeros (B n : Nat) : val B (List.replicate n 0) = 0 := by
  induction n with
  | zero => rfl
  | succ n ih => rw [List.replicate_succ]; show 0 + B * val B (List.replicate n 0) = 0; rw [ih]; simp
theorem val_lt {B : Nat} {l : List Nat} (h : Dg B l) : val B l < B ^ l.length := by
  induction l with
  | nil => simp [val]
  | cons x l ih =>
    have h1 := ih (fun y hy => h y (List.mem_cons_of_mem _ hy))
    have h2 := h x List.mem_cons_self
    show x + B * val B l < B ^ (l.length + 1)
    rw [Nat.pow_succ, Nat.mul_comm (B ^ l.length) B]
    have h3 : B * (val B l + 1) ≤ B * B ^ l.length := Nat.mul_le_mul_left B h1
    rw [Nat.mul_add] at h3
    omega
theorem val_split (B : Nat) (l : List Nat) (k : Nat) (h : k ≤ l.length) : val B l = val B (l.take k) + B ^ k * val B (l.drop k) := by
  have e := val_app B (l.take k) (l.drop k)
  rw [List.take_append_drop, List.length_take, Nat.min_eq_left h] at e
  exact e
theorem val_take_succ (B : Nat) (l : List Nat) (k : Nat) (h : k < l.length) : val B (l.take (k + 1)) = val B (l.take k) + B ^ k * l[k] := by
  rw [List.take_succ_eq_append_getElem h, val_app, val_one, List.length_take, Nat.min_eq_left (by omega)]
theorem val_drop (B : Nat) (l : List Nat) (k : Nat) (h : k < l.length) : val B (l.drop k) = l[k] + B * val B (l.drop (k + 1)) := by
  rw [List.drop_eq_getElem_cons h]; rfl
theorem Tr.nil : Tr [] := by simp [Tr]
theorem Tr.last {l : List Nat} (h : Tr l) (hn : 0 < l.length) : l[l.length - 1] ≠ 0 := fun e => by
  apply h
  rw [List.getLast?_eq_getElem?, List.getElem?_eq_getElem (by omega), e]
theorem Tr.le {B : Nat} {l : List Nat} (h : Tr l) (hn : 0 < l.length) : B ^ (l.length - 1) ≤ val B l := by
  have h1 := h.last hn
  rw [val_split B l (l.length - 1) (by omega), val_drop B l (l.length - 1) (by omega), show l.length - 1 + 1 = l.length by omega, List.drop_length]
  generalize l[l.length - 1] = x at *
  have : B ^ (l.length - 1) * 1 ≤ B ^ (l.length - 1) * (x + B * val B []) := Nat.mul_le_mul_left _ (by omega)
  omega
theorem Tr.zero {B : Nat} {l : List Nat} (hB : 0 < B) (h : Tr l) (hv : val B l = 0) : l = [] := by
  rcases Nat.eq_zero_or_pos l.length with h0 | h0
  · exact List.eq_nil_of_length_eq_zero h0
  · have := h.le (B := B) h0
    have := Nat.pow_pos (n := l.length - 1) hB
    omega
theorem val_take_zeros {B : Nat} {l : List Nat} {n : Nat} (hn : n ≤ l.length) (h : ∀ x ∈ l.drop n, x = 0) : val B (l.take n) = val B l := by
  rw [val_split B l n hn, show l.drop n = List.replicate (l.drop n).length 0 from List.eq_replicate_of_mem h, val_zeros]; simp
theorem len_le {B : Nat} {l : List Nat} (hB : 2 ≤ B) (h : Tr l) {n : Nat} (hv : val B l < B ^ n) : l.length ≤ n := by
  rcases Nat.eq_zero_or_pos l.length with h0 | h0
  · omega
  · have h1 := h.le (B := B) h0
    have h2 : B ^ (l.length - 1) < B ^ n := by omega
    have := (Nat.pow_lt_pow_iff_right (show 1 < B by omega)).1 h2
    omega
end Go.Proofs.YtpafjhjpchdcdaaGreatDoor
/- Plain: one round of addition, subtraction, multiplication, division by a digit. -/
namespace Go.Proofs.YtpafjhjpchdcdaaGreatDoor
structure SubI (B : Nat) (x y d : List Nat) (c i : Nat) : Prop where
  len : d.length = i
  dg : Dg B d
  carry : c ≤ 1
  eq : val B d + val B (y.take i) = val B (x.take i) + B ^ i * c
theorem SubI.done {B : Nat} {x y d : List Nat} {c : Nat} (h : SubI B x y d c x.length) (hl : y.length ≤ x.length) (hle : val B y ≤ val B x) : c = 0 ∧ val B d = val B x - val B y := by
  have h1 := val_lt h.dg
  have h2 := h.eq
  rw [List.take_of_length_le hl, List.take_of_length_le (Nat.le_refl _)] at h2
  rw [h.len] at h1
  have h3 := h.carry
  rcases (show c = 0 ∨ c = 1 by omega) with rfl | rfl
  · exact ⟨rfl, by omega⟩
  · omega
structure MulI (B : Nat) (o b : List Nat) (base x i j c : Nat) : Prop where
  dg : Dg B o
  carry : c < B
  eq : val B o + B ^ (i + j) * c = base + B ^ i * (x * val B (b.take j))
structure MulO (B : Nat) (o a b : List Nat) (i : Nat) : Prop where
  len : o.length = a.length + b.length
  dg : Dg B o
  zer : ∀ k (h : k < o.length), i + b.length ≤ k → o[k] = 0
  eq : val B o = val B (a.take i) * val B b
theorem MulO.row {B : Nat} {o a b : List Nat} {i : Nat} (h : MulO B o a b i) (hi : i < a.length) (hB : 2 ≤ B) : MulI B o b (val B (a.take i) * val B b) a[i] i 0 0 :=
  ⟨h.dg, by omega, by rw [h.eq]; simp [val]⟩
theorem MulO.done {B : Nat} {o a b : List Nat} (h : MulO B o a b a.length) : val B o = val B a * val B b := by
  rw [h.eq, List.take_of_length_le (Nat.le_refl _)]
structure DivI (B : Nat) (a q : List Nat) (d r i : Nat) : Prop where
  len : q.length = a.length
  dg : Dg B (q.drop i)
  rest : r < d
  eq : val B (a.drop i) = val B (q.drop i) * d + r
theorem DivI.done {B : Nat} {a q : List Nat} {d r : Nat} (h : DivI B a q d r 0) : val B q = val B a / d ∧ r = val B a % d := by
  have e := h.eq
  have hr := h.rest
  simp only [List.drop_zero] at e
  have e2 : val B a = d * val B q + r := by rw [e, Nat.mul_comm]
  rw [e2, Nat.mul_add_div (by omega), Nat.mul_add_mod, Nat.div_eq_of_lt hr, Nat.mod_eq_of_lt hr]
  exact ⟨by omega, rfl⟩
end Go.Proofs.YtpafjhjpchdcdaaGreatDoor
/- Plain: long division. -/
namespace Go.Proofs.YtpafjhjpchdcdaaGreatDoor
theorem guess_low {P B un u1 u2 v1 v2 ru rv t r U V : Nat} (hU : U = P * (B * (B * un + u1) + u2) + ru) (hV : V = P * (B * v1 + v2) + rv) (hrv : rv < P) (hv1 : 1 ≤ v1) (top : t * v1 + r = B * un + u1) (htB : t ≤ B) (h : t * v2 ≤ r * B + u2) : t * V ≤ U + V := by
  have e1 : t * (B * v1 + v2) = B * (t * v1) + t * v2 := by rw [Nat.mul_add, Nat.mul_left_comm]
  have e2 : B * (t * v1) + r * B = B * (B * un + u1) := by rw [← top, Nat.mul_add, Nat.mul_comm r B]
  have e3 : t * (B * v1 + v2) ≤ B * (B * un + u1) + u2 := by omega
  have e4 : P * (t * (B * v1 + v2)) ≤ P * (B * (B * un + u1) + u2) := Nat.mul_le_mul_left P e3
  have e5 : t * V = P * (t * (B * v1 + v2)) + t * rv := by rw [hV, Nat.mul_add, Nat.mul_left_comm]
  have e6 : t * rv ≤ B * P := Nat.mul_le_mul htB (by omega)
  have e7 : B * P * 1 ≤ B * P * v1 := Nat.mul_le_mul_left _ hv1
  have e8 : P * (B * v1 + v2) = B * P * v1 + P * v2 := by rw [Nat.mul_add, ← Nat.mul_assoc, Nat.mul_comm P B]
  omega
structure Win (B : Nat) (w v : List Nat) : Prop where
  dw : Dg B w
  dv : Dg B v
  tv : Tr v
  two : 2 ≤ v.length
  len : v.length < w.length
  zer : ∀ x ∈ w.drop (v.length + 1), x = 0
  lt : val B w < B * val B v
theorem Win.val_w {B : Nat} {w v : List Nat} (h : Win B w v) : val B w = val B (w.take v.length) + B ^ v.length * w[v.length]'h.len := by
  rw [← val_take_zeros h.len h.zer, val_take_succ B w _ h.len]
theorem Win.parts {B : Nat} {w v : List Nat} (h : Win B w v) : ∃ P ru rv, ru < P ∧ rv < P ∧
    val B w = P * (B * (B * w[v.length]'h.len + w[v.length - 1]'(by have := h.len; omega)) + w[v.length - 2]'(by have := h.len; omega)) + ru ∧
    val B v = P * (B * v[v.length - 1]'(by have := h.two; omega) + v[v.length - 2]'(by have := h.two; omega)) + rv := by
  have h2 := h.two
  have hl := h.len
  obtain ⟨n, hn⟩ : ∃ n, v.length = n + 2 := ⟨v.length - 2, by omega⟩
  have e1 : v.length - 1 = n + 1 := by omega
  have e2 : v.length - 2 = n := by omega
  have hv1 : v[v.length - 1]'(by omega) = v[n + 1]'(by omega) := by congr 1
  have hv2 : v[v.length - 2]'(by omega) = v[n]'(by omega) := by congr 1
  have hw0 : w[v.length]'hl = w[n + 2]'(by omega) := by congr 1
  have hw1 : w[v.length - 1]'(by omega) = w[n + 1]'(by omega) := by congr 1
  have hw2 : w[v.length - 2]'(by omega) = w[n]'(by omega) := by congr 1
  refine ⟨B ^ n, val B (w.take n), val B (v.take n), ?_, ?_, ?_, ?_⟩
  · have := val_lt (h.dw.take n); rwa [List.length_take, Nat.min_eq_left (by omega)] at this
  · have := val_lt (h.dv.take n); rwa [List.length_take, Nat.min_eq_left (by omega)] at this
  · rw [hw0, hw1, hw2, ← val_take_zeros (n := n + 3) (by omega) (by have := h.zer; rw [hn] at this; exact this), val_take_succ B w (n + 2) (by omega), val_take_succ B w (n + 1) (by omega), val_take_succ B w n (by omega), Nat.pow_succ, Nat.pow_succ]
    grind
  · have e : val B v = val B (v.take (n + 2)) := by rw [← hn, List.take_of_length_le (Nat.le_refl _)]
    rw [hv1, hv2, e, val_take_succ B v (n + 1) (by omega), val_take_succ B v n (by omega), Nat.pow_succ]
    grind
structure Gue (B : Nat) (w v : List Nat) (un u1 v1 t r : Nat) : Prop where
  top : t * v1 + r = B * un + u1
  ge : val B w < (t + 1) * val B v
theorem Gue.done {B : Nat} {w v : List Nat} (h : Win B w v) {t r : Nat} (hg : Gue B w v (w[v.length]'h.len) (w[v.length - 1]'(by have := h.len; omega)) (v[v.length - 1]'(by have := h.two; omega)) t r)
    (ht : t ≤ B) (hc : B ≤ r ∨ t * v[v.length - 2]'(by have := h.two; omega) ≤ r * B + w[v.length - 2]'(by have := h.len; omega)) : t * val B v ≤ val B w + val B v := by
  obtain ⟨P, ru, rv, h1, h2, h3, h4⟩ := h.parts
  have hv2 := h.dv.get (v.length - 2) (by have := h.two; omega)
  have hv1 := h.tv.last (by have := h.two; omega)
  have hgt := hg.top
  refine guess_low h3 h4 h2 (by omega) (by omega) ht ?_
  rcases hc with hc | hc
  · have e1 : t * v[v.length - 2]'(by have := h.two; omega) ≤ B * B := Nat.mul_le_mul ht (by omega)
    have e2 : B * B ≤ r * B := Nat.mul_le_mul_right _ hc
    omega
  · exact hc
structure SmI (B : Nat) (w0 v w : List Nat) (t c i : Nat) : Prop where
  len : w.length = w0.length
  dg : Dg B w
  rest : w.drop i = w0.drop i
  eq : val B (w.take i) + t * val B (v.take i) = val B (w0.take i) + B ^ i * c
theorem SmI.done {B : Nat} {w0 v w : List Nat} {t c : Nat} (hw : Win B w0 v) (h : SmI B w0 v w t c v.length) (h1 : val B w0 < (t + 1) * val B v) (h2 : t * val B v ≤ val B w0 + val B v) :
    (t * val B v ≤ val B w0 ∧ c = w0[v.length]'hw.len ∧ val B (w.take v.length) + t * val B v = val B w0) ∨
    (val B w0 < t * val B v ∧ c = w0[v.length]'hw.len + 1 ∧ val B (w.take v.length) + t * val B v = val B w0 + B ^ v.length) := by
  have e1 := hw.val_w
  have e2 := h.eq
  rw [List.take_of_length_le (Nat.le_refl _)] at e2
  have e3 := val_lt (h.dg.take v.length)
  rw [List.length_take, Nat.min_eq_left (by rw [h.len]; have := hw.len; omega)] at e3
  have e4 := val_lt hw.dv
  rw [Nat.succ_mul] at h1
  generalize w0[v.length]'hw.len = x at *
  generalize B ^ v.length = P at *
  generalize val B (w.take v.length) = a at *
  generalize val B (w0.take v.length) = b at *
  generalize t * val B v = T at *
  by_cases hT : T ≤ val B w0
  · left
    have h3 : P * c < P * (x + 1) := by rw [Nat.mul_add]; omega
    have h4 := Nat.lt_of_mul_lt_mul_left h3
    have h5 : P * x < P * (c + 1) := by rw [Nat.mul_add]; omega
    have h6 := Nat.lt_of_mul_lt_mul_left h5
    obtain rfl : c = x := by omega
    exact ⟨hT, rfl, by omega⟩
  · right
    have h3 : P * x < P * c := by omega
    have h4 := Nat.lt_of_mul_lt_mul_left h3
    have h5 : P * c < P * (x + 2) := by rw [Nat.mul_add]; omega
    have h6 := Nat.lt_of_mul_lt_mul_left h5
    obtain rfl : c = x + 1 := by omega
    rw [Nat.mul_add] at e2
    exact ⟨by omega, rfl, by omega⟩
structure AbI (B : Nat) (w v w' : List Nat) (c i : Nat) : Prop where
  len : w'.length = w.length
  dg : Dg B w'
  rest : w'.drop i = w.drop i
  carry : c ≤ 1
  eq : val B (w'.take i) + B ^ i * c = val B (w.take i) + val B (v.take i)
theorem AbI.done {B : Nat} {w0 v w w' : List Nat} {t c : Nat} (hw : Win B w0 v) (hl : w.length = w0.length) (ht : 0 < t) (hlt : val B w0 < t * val B v) (hge : t * val B v ≤ val B w0 + val B v) (hval : val B (w.take v.length) + t * val B v = val B w0 + B ^ v.length) (h : AbI B w v w' c v.length) :
    c = 1 ∧ val B (w'.take v.length) + (t - 1) * val B v = val B w0 := by
  have e2 := h.eq
  rw [List.take_of_length_le (Nat.le_refl _)] at e2
  have e3 := val_lt (h.dg.take v.length)
  rw [List.length_take, Nat.min_eq_left (by rw [h.len, hl]; have := hw.len; omega)] at e3
  have e4 := val_lt hw.dv
  obtain ⟨t', rfl⟩ : ∃ t', t = t' + 1 := ⟨t - 1, by omega⟩
  rw [Nat.succ_mul] at hlt hge hval
  rw [Nat.add_sub_cancel]
  have := h.carry
  rcases (show c = 0 ∨ c = 1 by omega) with rfl | rfl
  · omega
  · exact ⟨rfl, by omega⟩
structure LdI (B A V : Nat) (u q : List Nat) (n j : Nat) : Prop where
  lu : u.length = n + q.length
  du : Dg B u
  dq : Dg B (q.drop j)
  lt : val B u < V * B ^ j
  eq : A = val B (q.drop j) * B ^ j * V + val B u
theorem LdI.done {B A : Nat} {v u q : List Nat} (hv0 : 0 < val B v) (h : LdI B A (val B v) u q v.length 0) : val B q = A / val B v ∧ val B u = A % val B v ∧ Dg B q := by
  have e := h.eq
  have hr := h.lt
  have hd := h.dq
  simp only [List.drop_zero, Nat.pow_zero, Nat.mul_one] at e hr hd
  have e2 : A = val B v * val B q + val B u := by rw [e, Nat.mul_comm]
  refine ⟨?_, ?_, hd⟩
  · rw [e2, Nat.mul_add_div hv0, Nat.div_eq_of_lt hr]; omega
  · rw [e2, Nat.mul_add_mod, Nat.mod_eq_of_lt hr]
end Go.Proofs.YtpafjhjpchdcdaaGreatDoor
/- Plain: shifts of lists of digits, a quotient of two digits by two. -/
namespace Go.Proofs.YtpafjhjpchdcdaaGreatDoor
theorem div2_done {B T u2 v1 v2 t r : Nat} (top : t * v1 + r = T) (ge : T * B + u2 < (t + 1) * (v1 * B + v2)) (hv2 : v2 < B) (he : (B ≤ r ∧ t ≤ B) ∨ t * v2 ≤ r * B + u2) : t = (T * B + u2) / (v1 * B + v2) ∧ t * (v1 * B + v2) ≤ T * B + u2 := by
  have e1 : t * (v1 * B + v2) ≤ T * B + u2 := by
    have e2 : t * (v1 * B + v2) = (t * v1) * B + t * v2 := by rw [Nat.mul_add, Nat.mul_assoc]
    have e3 : T * B = (t * v1) * B + r * B := by rw [← top, Nat.add_mul]
    have e4 : t * v2 ≤ r * B + u2 := by
      rcases he with ⟨h1, h2⟩ | h1
      · have e5 : t * v2 ≤ B * B := Nat.mul_le_mul h2 (by omega)
        have e6 : B * B ≤ r * B := Nat.mul_le_mul_right _ h1
        omega
      · exact h1
    omega
  refine ⟨?_, e1⟩
  have hp : 0 < v1 * B + v2 := by
    rcases Nat.eq_zero_or_pos (v1 * B + v2) with h0 | h0
    · rw [h0] at ge; omega
    · exact h0
  exact (Nat.div_eq_of_lt_le e1 ge).symm
end Go.Proofs.YtpafjhjpchdcdaaGreatDoor
/- How numbers lie in memory: slices of digits, with their room. -/
namespace Go.Proofs.YtpafjhjpchdcdaaGreatDoor.Nu
open Go Go.Proofs Go.RowKit Go.Proofs.YtpafjhjpchdcdaaGreatDoor
def encW (n : Nat) : List Value := [.int .u64 (n : Int)]
def Sc {α : Type} (f : α → List Value) (sz : Nat) (w : World) (B : Nat) (v : Value) (l : List α) : Prop :=
  ∃ a c, v = .slice a l.length c ∧ l.length ≤ 1000000000 ∧ l.length ≤ c ∧ (0 < l.length → ∃ b off, a = some ⟨b, off, none⟩ ∧ b < B ∧
    ∀ i (h : i < l.length), At w b (off + i * sz) (f l[i]))
section
variable {α : Type} {f : α → List Value} {sz : Nat} {w w' : World} {B B' : Nat} {v : Value} {l : List α}
theorem Sc.below (h : Sc f sz w B v l) (hb : Below B w w') : Sc f sz w' B v l := by
  obtain ⟨a, c, rfl, h1, h2, h⟩ := h
  refine ⟨a, c, rfl, h1, h2, fun h0 => ?_⟩
  obtain ⟨b, off, rfl, hB, hc⟩ := h h0
  exact ⟨b, off, rfl, hB, fun i hi => (hc i hi).below hb hB⟩
theorem Sc.mono (h : Sc f sz w B v l) (hB' : B ≤ B') : Sc f sz w B' v l := by
  obtain ⟨a, c, rfl, h1, h2, h⟩ := h
  refine ⟨a, c, rfl, h1, h2, fun h0 => ?_⟩
  obtain ⟨b, off, rfl, hB, hc⟩ := h h0
  exact ⟨b, off, rfl, by omega, hc⟩
theorem Sc.later (h : Sc f sz w w.heap.size v l) (hb : Below w.heap.size w w') : Sc f sz w' w'.heap.size v l := (h.below hb).mono hb.size
theorem Sc.nil (f : α → List Value) (sz : Nat) (w : World) (B c : Nat) (a : Option Addr) : Sc f sz w B (.slice a 0 c) [] := ⟨a, c, rfl, by simp, Nat.zero_le _, fun h => absurd h (by simp)⟩
theorem Sc.take {a : Option Addr} {n c : Nat} (h : Sc f sz w B (.slice a n c) l) (k : Nat) (hk : k ≤ l.length) : Sc f sz w B (.slice a k c) (l.take k) := by
  obtain ⟨a', c', e, h1, h2, hA⟩ := h
  injection e with e1 e2 e3
  subst e1 e3
  have hl : (l.take k).length = k := by simp; omega
  refine ⟨a, c, by rw [hl], by rw [hl]; omega, by rw [hl]; omega, fun h0 => ?_⟩
  obtain ⟨b, off, e, hb, hc⟩ := hA (by omega)
  refine ⟨b, off, e, hb, fun i hi => ?_⟩
  rw [List.getElem_take]
  exact hc i (by rw [hl] at hi; omega)
theorem Sc.drop {b off n c : Nat} (h : Sc f sz w B (.slice (some ⟨b, off, none⟩) n c) l) (k : Nat) (hk : k ≤ l.length) (h0 : 0 < l.length) : Sc f sz w B (.slice (some ⟨b, off + k * sz, none⟩) (n - k) (c - k)) (l.drop k) := by
  obtain ⟨a', c', e, h1, h2, hA⟩ := h
  injection e with e1 e2 e3
  subst e1 e2 e3
  obtain ⟨b', off', e, hb, hc⟩ := hA h0
  cases e
  refine ⟨_, _, by rw [List.length_drop], by rw [List.length_drop]; omega, by rw [List.length_drop]; omega, fun _ => ⟨b, off + k * sz, rfl, hb, fun i hi => ?_⟩⟩
  rw [List.length_drop] at hi
  rw [List.getElem_drop, show off + k * sz + i * sz = off + (k + i) * sz by rw [Nat.add_mul]; omega]
  exact hc (k + i) (by omega)
theorem Sc.at {b off n c : Nat} (h : Sc f sz w B (.slice (some ⟨b, off, none⟩) n c) l) (i : Nat) (hi : i < l.length) : At w b (off + i * sz) (f l[i]) := by
  obtain ⟨a', c', e, h1, h2, hA⟩ := h
  injection e with e1 e2 e3
  subst e1
  obtain ⟨b', off', e, hb, hc⟩ := hA (by omega)
  cases e
  exact hc i hi
theorem Sc.blk {b off n c : Nat} (h : Sc f sz w B (.slice (some ⟨b, off, none⟩) n c) l) (h0 : 0 < l.length) : b < B := by
  obtain ⟨a', c', e, h1, h2, hA⟩ := h
  injection e with e1 e2 e3
  subst e1
  obtain ⟨b', off', e, hb, hc⟩ := hA h0
  cases e
  exact hb
end
def IntR (w : World) (v : Value) (z : Int) : Prop :=
  (v = .agg #[.int .i64 z, .slice none 0 0] ∧ -9223372036854775808 ≤ z ∧ z ≤ 9223372036854775807) ∨
  (∃ (s : Int) (b off n c : Nat) (l : List Nat), v = .agg #[.int .i64 s, .slice (some ⟨b, off, none⟩) n c] ∧ Sc encW 1 w w.heap.size (.slice (some ⟨b, off, none⟩) n c) l ∧ n = l.length ∧ 0 < n ∧ Dg (2 ^ 64) l ∧ Tr l ∧ 9223372036854775807 < val (2 ^ 64) l ∧
    ((s = 1 ∧ z = (val (2 ^ 64) l : Int)) ∨ (s = -1 ∧ z = -(val (2 ^ 64) l : Int))))
theorem IntR.later {w w' : World} {v : Value} {z : Int} (h : IntR w v z) (hb : Below w.heap.size w w') : IntR w' v z := by
  rcases h with h | ⟨s, b, off, n, c, l, h1, h2, h3⟩
  · exact .inl h
  · exact .inr ⟨s, b, off, n, c, l, h1, h2.later hb, h3⟩
structure Wds (k : Nat) (z : Int) : Prop where
  lt : z.natAbs < 2 ^ (64 * k)
theorem Wds.mono {k m : Nat} {z : Int} (h : Wds k z) (hkm : k ≤ m) : Wds m z := ⟨Nat.lt_of_lt_of_le h.lt (Nat.pow_le_pow_right (by decide) (by omega))⟩
theorem Wds.neg {k : Nat} {z : Int} (h : Wds k z) : Wds k (-z) := ⟨by rw [Int.natAbs_neg]; exact h.lt⟩
theorem Wds.le {k : Nat} {a b : Int} (h : Wds k b) (hab : a.natAbs ≤ b.natAbs) : Wds k a := ⟨Nat.lt_of_le_of_lt hab h.lt⟩
theorem Wds.len {k : Nat} {l : List Nat} (h : Wds k (val (2 ^ 64) l : Int)) (ht : Tr l) : l.length ≤ k := by
  refine len_le (B := 2 ^ 64) (by decide) ht (n := k) ?_
  have h1 := h.lt
  rw [Int.natAbs_natCast] at h1
  rw [← Nat.pow_mul]
  exact h1
end Go.Proofs.YtpafjhjpchdcdaaGreatDoor.Nu
/- Walks: num.size, num.Of, (num.Int).Small, (num.Int).Sign. -/
namespace Go.Proofs.YtpafjhjpchdcdaaGreatDoor.Nu
open Go Go.Proofs Go.RowKit Go.Proofs.YtpafjhjpchdcdaaGreatDoor
set_option maxRecDepth 100000 in
set_option maxHeartbeats 1000000 in
theorem size104 (n : Int) (h1 : -9223372036854775808 ≤ n) (h2 : n ≤ 9223372036854775807) (w : World) : Calls Tryz.prog 132 #[.int .i64 n] w fun e w' => e = .returned (.int .u64 (n.natAbs : Int)) ∧ w = w' := by
  by_cases h0 : n < 0
  · have d0 : decide (n < 0) = true := decide_eq_true h0
    have hv : IntKind.u64.wrap (IntKind.i64.wrap (-n)) = (n.natAbs : Int) := by
      rcases (show n = -9223372036854775808 ∨ -9223372036854775808 < n by omega) with rfl | h3
      · rfl
      · rw [IntWalk.i64_in _ (by omega), IntWalk.u64_in _ (by omega)]; omega
    generalize (n.natAbs : Int) = N at *
    obtain ⟨m, hm⟩ : ∃ m, IntKind.i64.wrap (-n) = m := ⟨_, rfl⟩
    rw [hm] at hv
    clear h0 h1 h2
    go_enter Tryz.func132, Tryz.ntmps132
    go_wp2_with fail
    go_ret
    exact ⟨rfl, rfl⟩
  · have d0 : decide (n < 0) = false := decide_eq_false h0
    have hv : IntKind.u64.wrap n = (n.natAbs : Int) := by rw [IntWalk.u64_in _ (by omega)]; omega
    generalize (n.natAbs : Int) = N at *
    clear h0 h1 h2
    go_enter Tryz.func132, Tryz.ntmps132
    go_wp2_with fail
    go_ret
    exact ⟨rfl, rfl⟩
set_option maxRecDepth 100000 in
set_option maxHeartbeats 1000000 in
theorem of94 (n : Int) (w : World) : Calls Tryz.prog 100 #[.int .i64 n] w (Ret (.agg #[.int .i64 n, .slice none 0 0]) w) := by
  have HB := Lib.hid ((Below.refl w.heap.size w).alloc (Nat.le_refl _) (.cells #[.int .i64 n, .slice none 0 0] 135))
  go_enter Tryz.func100, Tryz.ntmps100
  go_wp2_with fail
  refine bodyPost_ret (v := .agg #[.int .i64 n, .slice none 0 0]) (by simp [results, Tryz.results100, go_sem, *]) rfl ?_
  exact ⟨rfl, HB.out⟩
end Go.Proofs.YtpafjhjpchdcdaaGreatDoor.Nu
/- The shelf's contracts of library functions, laid at this program. -/
namespace Go.Proofs
open Go.Shelf
def Tryz.lays160_ren : Go.Shelf.Ren := ⟨fun | 160 => 148 | 232 => 167 | 231 => 166 | 227 => 168 | 234 => 170 | 233 => 169 | 236 => 172 | 235 => 171 | 228 => 185 | 271 => 188 | 151 => 187 | 197 => 186 | 120 => 195 | 152 => 194 | 260 => 193 | 137 => 199 | 119 => 200 | 224 => 164 | 225 => 163 | 217 => 162 | 266 => 183 | n => n, fun | 9 => 9 | 4 => 4 | 3 => 3 | 5 => 5 | 117 => 207 | 116 => 206 | 0 => 0 | 124 => 210 | 21 => 21 | 105 => 226 | 46 => 161 | 119 => 242 | 139 => 245 | 138 => 244 | n => n, fun | 3 => 6 | 4 => 7 | n => n⟩
theorem Tryz.lays160 : Go.Proofs.Lays.n160 Tryz.prog Tryz.lays160_ren := {
  mixed := by kernel_rfl
  f119 := Tryz.func200.trans (congrArg some (by kernel_rfl))
  f120 := Tryz.func195.trans (congrArg some (by kernel_rfl))
  f137 := Tryz.func199.trans (congrArg some (by kernel_rfl))
  f151 := Tryz.func187.trans (congrArg some (by kernel_rfl))
  f152 := Tryz.func194.trans (congrArg some (by kernel_rfl))
  f160 := Tryz.func148.trans (congrArg some (by kernel_rfl))
  f197 := Tryz.func186.trans (congrArg some (by kernel_rfl))
  f217 := Tryz.func162.trans (congrArg some (by kernel_rfl))
  f224 := Tryz.func164.trans (congrArg some (by kernel_rfl))
  f225 := Tryz.func163.trans (congrArg some (by kernel_rfl))
  f227 := Tryz.func168.trans (congrArg some (by kernel_rfl))
  f228 := Tryz.func185.trans (congrArg some (by kernel_rfl))
  f231 := Tryz.func166.trans (congrArg some (by kernel_rfl))
  f232 := Tryz.func167.trans (congrArg some (by kernel_rfl))
  f233 := Tryz.func169.trans (congrArg some (by kernel_rfl))
  f234 := Tryz.func170.trans (congrArg some (by kernel_rfl))
  f235 := Tryz.func171.trans (congrArg some (by kernel_rfl))
  f236 := Tryz.func172.trans (congrArg some (by kernel_rfl))
  f260 := Tryz.func193.trans (congrArg some (by kernel_rfl))
  f266 := Tryz.func183.trans (congrArg some (by kernel_rfl))
  f271 := Tryz.func188.trans (congrArg some (by kernel_rfl))
  t0 := Tryz.underlying0
  a0 := Tryz.isAgg0
  z0 := Tryz.sizeOf0
  v0 := Tryz.zeroValue0
  t3 := Tryz.underlying3
  a3 := Tryz.isAgg3
  z3 := Tryz.sizeOf3
  v3 := Tryz.zeroValue3
  t4 := Tryz.underlying4
  a4 := Tryz.isAgg4
  z4 := Tryz.sizeOf4
  v4 := Tryz.zeroValue4
  t5 := Tryz.underlying5
  a5 := Tryz.isAgg5
  z5 := Tryz.sizeOf5
  v5 := Tryz.zeroValue5
  t9 := Tryz.underlying9
  a9 := Tryz.isAgg9
  z9 := Tryz.sizeOf9
  v9 := Tryz.zeroValue9
  t21 := Tryz.underlying21
  a21 := Tryz.isAgg21
  z21 := Tryz.sizeOf21
  v21 := Tryz.zeroValue21
  t46 := Tryz.underlying161
  a46 := Tryz.isAgg161
  z46 := Tryz.sizeOf161
  v46 := Tryz.zeroValue161
  t105 := Tryz.underlying226
  a105 := Tryz.isAgg226
  z105 := Tryz.sizeOf226
  v105 := Tryz.zeroValue226
  t116 := Tryz.underlying206
  a116 := Tryz.isAgg206
  z116 := Tryz.sizeOf206
  t117 := Tryz.underlying207
  a117 := Tryz.isAgg207
  z117 := Tryz.sizeOf207
  v117 := Tryz.zeroValue207
  t119 := Tryz.underlying242
  a119 := Tryz.isAgg242
  z119 := Tryz.sizeOf242
  t124 := Tryz.underlying210
  a124 := Tryz.isAgg210
  z124 := Tryz.sizeOf210
  v124 := Tryz.zeroValue210
  t138 := Tryz.underlying244
  a138 := Tryz.isAgg244
  z138 := Tryz.sizeOf244
  v138 := Tryz.zeroValue244
  t139 := Tryz.underlying245
  a139 := Tryz.isAgg245
  z139 := Tryz.sizeOf245
  v139 := Tryz.zeroValue245
  g3 := by kernel_rfl
  g4 := by kernel_rfl }
def Tryz.lays172_ren : Go.Shelf.Ren := ⟨fun | 172 => 122 | 244 => 151 | 245 => 152 | 247 => 177 | 279 => 178 | 280 => 179 | 281 => 180 | 282 => 181 | 287 => 189 | 316 => 190 | 171 => 192 | 205 => 191 | 321 => 196 | 322 => 197 | 243 => 198 | 246 => 201 | 283 => 202 | 284 => 203 | 285 => 204 | 286 => 205 | 129 => 145 | 317 => 206 | 318 => 207 | 319 => 208 | 320 => 209 | 337 => 210 | 338 => 211 | n => n, fun | 9 => 9 | 3 => 3 | 75 => 167 | 76 => 168 | 4 => 4 | 5 => 5 | 167 => 213 | 37 => 214 | 0 => 0 | 85 => 215 | 2 => 2 | 168 => 217 | 53 => 175 | 175 => 229 | 46 => 161 | 210 => 233 | 127 => 238 | 145 => 241 | 143 => 239 | 21 => 21 | 171 => 248 | 173 => 250 | 212 => 253 | 51 => 189 | 20 => 20 | 213 => 254 | 232 => 255 | 233 => 256 | 80 => 257 | n => n, fun | 15 => 4 | 16 => 5 | 17 => 8 | 18 => 9 | 19 => 10 | n => n⟩
theorem Tryz.lays172 : Go.Proofs.Lays.n172 Tryz.prog Tryz.lays172_ren := {
  mixed := by kernel_rfl
  f129 := Tryz.func145.trans (congrArg some (by kernel_rfl))
  f171 := Tryz.func192.trans (congrArg some (by kernel_rfl))
  f172 := Tryz.func122.trans (congrArg some (by kernel_rfl))
  f205 := Tryz.func191.trans (congrArg some (by kernel_rfl))
  f243 := Tryz.func198.trans (congrArg some (by kernel_rfl))
  f244 := Tryz.func151.trans (congrArg some (by kernel_rfl))
  f245 := Tryz.func152.trans (congrArg some (by kernel_rfl))
  f246 := Tryz.func201.trans (congrArg some (by kernel_rfl))
  f247 := Tryz.func177.trans (congrArg some (by kernel_rfl))
  f279 := Tryz.func178.trans (congrArg some (by kernel_rfl))
  f280 := Tryz.func179.trans (congrArg some (by kernel_rfl))
  f281 := Tryz.func180.trans (congrArg some (by kernel_rfl))
  f282 := Tryz.func181.trans (congrArg some (by kernel_rfl))
  f283 := Tryz.func202.trans (congrArg some (by kernel_rfl))
  f284 := Tryz.func203.trans (congrArg some (by kernel_rfl))
  f285 := Tryz.func204.trans (congrArg some (by kernel_rfl))
  f286 := Tryz.func205.trans (congrArg some (by kernel_rfl))
  f287 := Tryz.func189.trans (congrArg some (by kernel_rfl))
  f316 := Tryz.func190.trans (congrArg some (by kernel_rfl))
  f317 := Tryz.func206.trans (congrArg some (by kernel_rfl))
  f318 := Tryz.func207.trans (congrArg some (by kernel_rfl))
  f319 := Tryz.func208.trans (congrArg some (by kernel_rfl))
  f320 := Tryz.func209.trans (congrArg some (by kernel_rfl))
  f321 := Tryz.func196.trans (congrArg some (by kernel_rfl))
  f322 := Tryz.func197.trans (congrArg some (by kernel_rfl))
  f337 := Tryz.func210.trans (congrArg some (by kernel_rfl))
  f338 := Tryz.func211.trans (congrArg some (by kernel_rfl))
  t0 := Tryz.underlying0
  a0 := Tryz.isAgg0
  z0 := Tryz.sizeOf0
  v0 := Tryz.zeroValue0
  t2 := Tryz.underlying2
  a2 := Tryz.isAgg2
  z2 := Tryz.sizeOf2
  v2 := Tryz.zeroValue2
  t3 := Tryz.underlying3
  a3 := Tryz.isAgg3
  z3 := Tryz.sizeOf3
  v3 := Tryz.zeroValue3
  t4 := Tryz.underlying4
  a4 := Tryz.isAgg4
  z4 := Tryz.sizeOf4
  v4 := Tryz.zeroValue4
  t5 := Tryz.underlying5
  a5 := Tryz.isAgg5
  z5 := Tryz.sizeOf5
  v5 := Tryz.zeroValue5
  t9 := Tryz.underlying9
  a9 := Tryz.isAgg9
  z9 := Tryz.sizeOf9
  v9 := Tryz.zeroValue9
  t20 := Tryz.underlying20
  a20 := Tryz.isAgg20
  z20 := Tryz.sizeOf20
  v20 := Tryz.zeroValue20
  t21 := Tryz.underlying21
  a21 := Tryz.isAgg21
  z21 := Tryz.sizeOf21
  v21 := Tryz.zeroValue21
  t37 := Tryz.underlying214
  a37 := Tryz.isAgg214
  z37 := Tryz.sizeOf214
  v37 := Tryz.zeroValue214
  t46 := Tryz.underlying161
  a46 := Tryz.isAgg161
  z46 := Tryz.sizeOf161
  v46 := Tryz.zeroValue161
  t51 := Tryz.underlying189
  a51 := Tryz.isAgg189
  z51 := Tryz.sizeOf189
  v51 := Tryz.zeroValue189
  t53 := Tryz.underlying175
  a53 := Tryz.isAgg175
  z53 := Tryz.sizeOf175
  v53 := Tryz.zeroValue175
  t75 := Tryz.underlying167
  a75 := Tryz.isAgg167
  z75 := Tryz.sizeOf167
  v75 := Tryz.zeroValue167
  t76 := Tryz.underlying168
  a76 := Tryz.isAgg168
  z76 := Tryz.sizeOf168
  v76 := Tryz.zeroValue168
  t85 := Tryz.underlying215
  a85 := Tryz.isAgg215
  z85 := Tryz.sizeOf215
  v85 := Tryz.zeroValue215
  t127 := Tryz.underlying238
  a127 := Tryz.isAgg238
  z127 := Tryz.sizeOf238
  v127 := Tryz.zeroValue238
  t143 := Tryz.underlying239
  a143 := Tryz.isAgg239
  z143 := Tryz.sizeOf239
  v143 := Tryz.zeroValue239
  t145 := Tryz.underlying241
  a145 := Tryz.isAgg241
  z145 := Tryz.sizeOf241
  v145 := Tryz.zeroValue241
  t167 := Tryz.underlying213
  a167 := Tryz.isAgg213
  z167 := Tryz.sizeOf213
  v167 := Tryz.zeroValue213
  t168 := Tryz.underlying217
  a168 := Tryz.isAgg217
  z168 := Tryz.sizeOf217
  v168 := Tryz.zeroValue217
  t171 := Tryz.underlying248
  a171 := Tryz.isAgg248
  z171 := Tryz.sizeOf248
  v171 := Tryz.zeroValue248
  t173 := Tryz.underlying250
  a173 := Tryz.isAgg250
  z173 := Tryz.sizeOf250
  v173 := Tryz.zeroValue250
  t175 := Tryz.underlying229
  a175 := Tryz.isAgg229
  z175 := Tryz.sizeOf229
  v175 := Tryz.zeroValue229
  t210 := Tryz.underlying233
  a210 := Tryz.isAgg233
  z210 := Tryz.sizeOf233
  v210 := Tryz.zeroValue233
  t212 := Tryz.underlying253
  a212 := Tryz.isAgg253
  z212 := Tryz.sizeOf253
  v212 := Tryz.zeroValue253
  t213 := Tryz.underlying254
  a213 := Tryz.isAgg254
  z213 := Tryz.sizeOf254
  t232 := Tryz.underlying255
  a232 := Tryz.isAgg255
  z232 := Tryz.sizeOf255
  v232 := Tryz.zeroValue255
  t233 := Tryz.underlying256
  a233 := Tryz.isAgg256
  z233 := Tryz.sizeOf256
  v233 := Tryz.zeroValue256
  g15 := by kernel_rfl
  g16 := by kernel_rfl
  g17 := by kernel_rfl
  g18 := by kernel_rfl
  g19 := by kernel_rfl }
open Go.RowKit in
theorem Tryz.strconv_Atoi (s : ByteArray) (n : Int) (hl : s.size ≤ 18) (h : Lib.atoi s.data.toList = some n) (w : World) :
    Calls Tryz.prog 122 #[.string s] w fun e w' => e = .returned (.tuple #[.int .i64 n, .nilIface]) ∧ ∃ t, w' = Lib.bytesWorld w 5 t := Any.strconv_Atoi Tryz.lays172 s n hl h w
def Tryz.lays145_ren : Go.Shelf.Ren := ⟨fun | 145 => 101 | 220 => 116 | 219 => 146 | 217 => 162 | 225 => 163 | 224 => 164 | 267 => 165 | 266 => 183 | 314 => 184 | n => n, fun | 9 => 9 | 4 => 4 | 59 => 148 | 3 => 3 | 5 => 5 | 46 => 161 | 146 => 223 | 51 => 189 | n => n, fun | 1 => 1 | n => n⟩
theorem Tryz.lays145 : Go.Proofs.Lays.n145 Tryz.prog Tryz.lays145_ren := {
  mixed := by kernel_rfl
  f145 := Tryz.func101.trans (congrArg some (by kernel_rfl))
  f217 := Tryz.func162.trans (congrArg some (by kernel_rfl))
  f219 := Tryz.func146.trans (congrArg some (by kernel_rfl))
  f220 := Tryz.func116.trans (congrArg some (by kernel_rfl))
  f224 := Tryz.func164.trans (congrArg some (by kernel_rfl))
  f225 := Tryz.func163.trans (congrArg some (by kernel_rfl))
  f266 := Tryz.func183.trans (congrArg some (by kernel_rfl))
  f267 := Tryz.func165.trans (congrArg some (by kernel_rfl))
  f314 := Tryz.func184.trans (congrArg some (by kernel_rfl))
  t3 := Tryz.underlying3
  a3 := Tryz.isAgg3
  z3 := Tryz.sizeOf3
  v3 := Tryz.zeroValue3
  t4 := Tryz.underlying4
  a4 := Tryz.isAgg4
  z4 := Tryz.sizeOf4
  v4 := Tryz.zeroValue4
  t5 := Tryz.underlying5
  a5 := Tryz.isAgg5
  z5 := Tryz.sizeOf5
  v5 := Tryz.zeroValue5
  t9 := Tryz.underlying9
  a9 := Tryz.isAgg9
  z9 := Tryz.sizeOf9
  v9 := Tryz.zeroValue9
  t46 := Tryz.underlying161
  a46 := Tryz.isAgg161
  z46 := Tryz.sizeOf161
  v46 := Tryz.zeroValue161
  t51 := Tryz.underlying189
  a51 := Tryz.isAgg189
  z51 := Tryz.sizeOf189
  v51 := Tryz.zeroValue189
  t59 := Tryz.underlying148
  a59 := Tryz.isAgg148
  z59 := Tryz.sizeOf148
  v59 := Tryz.zeroValue148
  t146 := Tryz.underlying223
  a146 := Tryz.isAgg223
  z146 := Tryz.sizeOf223
  v146 := Tryz.zeroValue223
  g1 := by kernel_rfl }
open Go.RowKit Go.Lib in
theorem Tryz.strings_Cut (s sep : ByteArray) (m : Int) (w : World) (hs : s.size < 4294967281) (hm : w.cell? ⟨1, 0, none⟩ = some (.int .i64 m)) :
    Calls Tryz.prog 101 #[.string s, .string sep] w fun e w' => e = .returned (.tuple #[.string ⟨(Lib.cut s.data.toList sep.data.toList).1.toArray⟩, .string ⟨(Lib.cut s.data.toList sep.data.toList).2.1.toArray⟩, .bool (Lib.cut s.data.toList sep.data.toList).2.2]) ∧ ∃ n, w' = w.drewN n := Any.strings_Cut Tryz.lays145 s sep m w hs hm
def Tryz.lays99_ren : Go.Shelf.Ren := ⟨fun | 99 => 121 | 206 => 147 | n => n, fun | 9 => 9 | 4 => 4 | 3 => 3 | n => n, fun | n => n⟩
theorem Tryz.lays99 : Go.Proofs.Lays.n99 Tryz.prog Tryz.lays99_ren := {
  mixed := by kernel_rfl
  f99 := Tryz.func121.trans (congrArg some (by kernel_rfl))
  f206 := Tryz.func147.trans (congrArg some (by kernel_rfl))
  t3 := Tryz.underlying3
  a3 := Tryz.isAgg3
  z3 := Tryz.sizeOf3
  v3 := Tryz.zeroValue3
  t4 := Tryz.underlying4
  a4 := Tryz.isAgg4
  z4 := Tryz.sizeOf4
  v4 := Tryz.zeroValue4
  t9 := Tryz.underlying9
  a9 := Tryz.isAgg9
  z9 := Tryz.sizeOf9
  v9 := Tryz.zeroValue9 }
open Go.RowKit Go.Lib in
theorem Tryz.strings_HasPrefix (s p : ByteArray) (w : World) :
    Calls Tryz.prog 121 #[.string s, .string p] w fun e w' => e = .returned (.bool (Lib.hasPrefix s.data.toList p.data.toList)) ∧ w' = w := Any.strings_HasPrefix Tryz.lays99 s p w
def Tryz.lays101_ren : Go.Shelf.Ren := ⟨fun | 101 => 102 | 208 => 117 | 206 => 147 | n => n, fun | 9 => 9 | 4 => 4 | 3 => 3 | n => n, fun | n => n⟩
theorem Tryz.lays101 : Go.Proofs.Lays.n101 Tryz.prog Tryz.lays101_ren := {
  mixed := by kernel_rfl
  f101 := Tryz.func102.trans (congrArg some (by kernel_rfl))
  f206 := Tryz.func147.trans (congrArg some (by kernel_rfl))
  f208 := Tryz.func117.trans (congrArg some (by kernel_rfl))
  t3 := Tryz.underlying3
  a3 := Tryz.isAgg3
  z3 := Tryz.sizeOf3
  v3 := Tryz.zeroValue3
  t4 := Tryz.underlying4
  a4 := Tryz.isAgg4
  z4 := Tryz.sizeOf4
  v4 := Tryz.zeroValue4
  t9 := Tryz.underlying9
  a9 := Tryz.isAgg9
  z9 := Tryz.sizeOf9
  v9 := Tryz.zeroValue9 }
open Go.RowKit Go.Lib in
theorem Tryz.strings_TrimPrefix (s p : ByteArray) (w : World) :
    Calls Tryz.prog 102 #[.string s, .string p] w fun e w' => e = .returned (.string ⟨(Lib.trimPrefix s.data.toList p.data.toList).toArray⟩) ∧ w' = w := Any.strings_TrimPrefix Tryz.lays101 s p w
def Tryz.lays264_ren : Go.Shelf.Ren := ⟨fun | 264 => 131 | n => n, fun | 53 => 175 | 46 => 161 | n => n, fun | n => n⟩
theorem Tryz.lays264 : Go.Proofs.Lays.n264 Tryz.prog Tryz.lays264_ren := {
  mixed := by kernel_rfl
  f264 := Tryz.func131.trans (congrArg some (by kernel_rfl))
  t46 := Tryz.underlying161
  a46 := Tryz.isAgg161
  z46 := Tryz.sizeOf161
  v46 := Tryz.zeroValue161
  t53 := Tryz.underlying175
  a53 := Tryz.isAgg175
  z53 := Tryz.sizeOf175
  v53 := Tryz.zeroValue175 }
open Go.RowKit Go.Lib in
theorem Tryz.bits_Mul64 (x y : Nat) (hx : x < 18446744073709551616) (hy : y < 18446744073709551616) (w : World) :
    Calls Tryz.prog 131 #[.int .u64 x, .int .u64 y] w fun e w' => e = .returned (.tuple #[.int .u64 ((x * y / 18446744073709551616 : Nat) : Int), .int .u64 ((x * y % 18446744073709551616 : Nat) : Int)]) ∧ w' = w := Any.bits_Mul64 Tryz.lays264 x y hx hy w
end Go.Proofs
/- Plain: decimal numerals. -/
namespace Go.Proofs.YtpafjhjpchdcdaaGreatDoor
open Go.Lib
def isDig (c : UInt8) : Prop := 48 ≤ c.toNat ∧ c.toNat ≤ 57
instance (c : UInt8) : Decidable (isDig c) := by unfold isDig; infer_instance
theorem hd_app {α : Type} {a b : List α} (h : a ≠ []) : (a ++ b).head? = a.head? := by cases a with | nil => exact absurd rfl h | cons x a => rfl
theorem dgc {d : Nat} (h : d < 10) : (UInt8.ofNat (48 + d)).toNat = 48 + d := by
  rw [UInt8.toNat_ofNat']; omega
theorem dec_small {n : Nat} (h : n < 10) : decDigits n = [UInt8.ofNat (48 + n)] := by rw [decDigits, dif_pos h]
theorem dec_big {n : Nat} (h : ¬ n < 10) : decDigits n = decDigits (n / 10) ++ [UInt8.ofNat (48 + n % 10)] := by rw [decDigits, dif_neg h]
theorem dec_ne (n : Nat) : decDigits n ≠ [] := by
  by_cases h : n < 10
  · rw [dec_small h]; simp
  · rw [dec_big h]; simp
def padL : Nat → Nat → List UInt8
  | 0, _ => []
  | k + 1, n => padL k (n / 10) ++ [UInt8.ofNat (48 + n % 10)]
theorem padL_len (k n : Nat) : (padL k n).length = k := by
  induction k generalizing n with
  | zero => rfl
  | succ k ih => simp [padL, ih]
theorem padL_dec : ∀ (k n : Nat), n < 10 ^ k → 0 < k → padL k n = List.replicate (k - (decDigits n).length) 48 ++ decDigits n := by
  intro k
  induction k with
  | zero => intro n _ h; omega
  | succ k ih =>
    intro n hn _
    rw [Nat.pow_succ] at hn
    by_cases h : n < 10
    · rw [dec_small h, padL, show n / 10 = 0 by omega, show n % 10 = n by omega]
      simp only [List.length_singleton, Nat.add_sub_cancel]
      congr 1
      clear ih hn h
      induction k with
      | zero => rfl
      | succ k ih => rw [padL, ih (by omega), List.replicate_succ']; rfl
    · have hk : 0 < k := by
        rcases Nat.eq_zero_or_pos k with rfl | h0
        · simp at hn; omega
        · exact h0
      rw [dec_big h, padL, ih (n / 10) (by omega) hk, List.length_append, List.length_singleton, List.append_assoc, show k + 1 - ((decDigits (n / 10)).length + 1) = k - (decDigits (n / 10)).length by omega]
def dval (l : List UInt8) : Nat := l.foldl (fun n c => 10 * n + (c.toNat - 48)) 0
theorem dval_from (l : List UInt8) : ∀ a, l.foldl (fun n c => 10 * n + (c.toNat - 48)) a = a * 10 ^ l.length + dval l := by
  induction l with
  | nil => intro a; simp [dval]
  | cons c l ih =>
    intro a
    unfold dval
    rw [List.foldl_cons, List.foldl_cons, ih, ih, List.length_cons, Nat.pow_succ]
    grind
theorem dval_app (a b : List UInt8) : dval (a ++ b) = dval a * 10 ^ b.length + dval b := by
  rw [← dval_from b (dval a)]
  exact List.foldl_append
theorem dval_one (c : UInt8) : dval [c] = c.toNat - 48 := by simp [dval]
theorem dval_snoc (l : List UInt8) (c : UInt8) : dval (l ++ [c]) = 10 * dval l + (c.toNat - 48) := by rw [dval_app, dval_one, List.length_singleton]; omega
theorem dval_dec (n : Nat) : dval (decDigits n) = n := by
  induction n using Nat.strongRecOn with
  | _ n ih =>
    by_cases h : n < 10
    · rw [dec_small h, dval_one, dgc h]; omega
    · rw [dec_big h, dval_snoc, ih (n / 10) (by omega), dgc (by omega)]; omega
theorem dec_inj {a b : Nat} (h : decDigits a = decDigits b) : a = b := by rw [← dval_dec a, h, dval_dec]
theorem dec_dig (n : Nat) : ∀ c ∈ decDigits n, isDig c := by
  induction n using Nat.strongRecOn with
  | _ n ih =>
    intro c hc
    by_cases h : n < 10
    · rw [dec_small h, List.mem_singleton] at hc
      subst hc
      unfold isDig; rw [dgc h]; omega
    · rw [dec_big h] at hc
      rcases List.mem_append.1 hc with hc | hc
      · exact ih (n / 10) (by omega) c hc
      · rw [List.mem_singleton] at hc
        subst hc
        unfold isDig; rw [dgc (by omega)]; omega
theorem dec_head {n : Nat} (hn : 0 < n) : (decDigits n).head? ≠ some 48 := by
  induction n using Nat.strongRecOn with
  | _ n ih =>
    by_cases h : n < 10
    · rw [dec_small h]
      intro e
      injection e with e
      have := dgc h
      rw [e] at this
      simp at this
      omega
    · rw [dec_big h, hd_app (dec_ne _)]
      exact ih (n / 10) (by omega) (by omega)
theorem dec_zero : decDigits 0 = [48] := by rw [dec_small (by omega)]; rfl
theorem dval_lt {l : List UInt8} (h : ∀ c ∈ l, isDig c) : dval l < 10 ^ l.length := by
  induction hn : l.length generalizing l with
  | zero => rw [List.eq_nil_of_length_eq_zero hn]; decide
  | succ n ih =>
    have hne : l ≠ [] := by intro e; rw [e] at hn; cases hn
    obtain ⟨l', c, rfl⟩ : ∃ l' c, l = l' ++ [c] := ⟨l.dropLast, l.getLast hne, (List.dropLast_concat_getLast hne).symm⟩
    have h1 := ih (l := l') (fun x hx => h x (by simp [hx])) (by simpa using hn)
    obtain ⟨h2, h3⟩ := h c (by simp)
    rw [dval_snoc, Nat.pow_succ]
    omega
theorem dec_len_le {n k : Nat} (hk : 0 < k) : (decDigits n).length ≤ k ↔ n < 10 ^ k := by
  constructor
  · intro h
    have h1 := dval_lt (dec_dig n)
    rw [dval_dec] at h1
    exact Nat.lt_of_lt_of_le h1 (Nat.pow_le_pow_right (by decide) h)
  · intro h
    have e := padL_dec k n h hk
    have := congrArg List.length e
    rw [padL_len, List.length_append, List.length_replicate] at this
    omega
theorem dec_pos_len (n : Nat) : 0 < (decDigits n).length := List.length_pos_iff.2 (dec_ne n)
theorem itoa_nn {n : Int} (h : 0 ≤ n) : itoa n = decDigits n.toNat := by unfold itoa; rw [if_neg (by omega)]
theorem itoa_ng {n : Int} (h : n < 0) : itoa n = 45 :: decDigits n.natAbs := by unfold itoa; rw [if_pos h]
end Go.Proofs.YtpafjhjpchdcdaaGreatDoor
/- Plain: rational numbers and their texts. -/
namespace Go.Proofs.YtpafjhjpchdcdaaGreatDoor
open Go.Lib
theorem itoa_slash (n : Int) : (47 : UInt8) ∉ itoa n := by
  intro h
  have hd : ∀ m : Nat, (47 : UInt8) ∉ decDigits m := fun m hm => absurd (dec_dig m 47 hm) (by decide)
  by_cases hn : n < 0
  · rw [itoa_ng hn] at h
    rcases List.mem_cons.1 h with h | h
    · exact absurd h (by decide)
    · exact hd _ h
  · rw [itoa_nn (by omega)] at h
    exact hd _ h
end Go.Proofs.YtpafjhjpchdcdaaGreatDoor
