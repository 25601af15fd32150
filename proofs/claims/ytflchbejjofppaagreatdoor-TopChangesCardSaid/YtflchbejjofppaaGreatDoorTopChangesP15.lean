/- Lemmas on the way to the law TopChanges (part 15): Da Db Dc Df -/
import Derived.Lib.Hide
set_option linter.unusedVariables false
set_option linter.unusedSimpArgs false

/- Plain: lists of digits to a base, the least significant one first. -/
namespace Go.Proofs.YtflchbejjofppaaGreatDoor
def val (B : Nat) : List Nat → Nat
  | [] => 0
  | x :: r => x + B * val B r
def Dg (B : Nat) (l : List Nat) : Prop := ∀ x ∈ l, x < B
def Tr (l : List Nat) : Prop := l.getLast? ≠ some 0
theorem Dg.nil (B : Nat) : Dg B [] := fun _ h => absurd h (by simp)
theorem Dg.app {B : Nat} {a b : List Nat} (ha : Dg B a) (hb : Dg B b) : Dg B (a ++ b) := fun x hx => (List.mem_append.1 hx).elim (ha x) (hb x)
theorem Dg.take {B : Nat} {a : List Nat} (ha : Dg B a) (k : Nat) : Dg B (a.take k) := fun x hx => ha x (List.mem_of_mem_take hx)
theorem Dg.drop {B : Nat} {a : List Nat} (ha : Dg B a) (k : Nat) : Dg B (a.drop k) := fun x hx => ha x (List.mem_of_mem_drop hx)
theorem Dg.one {B x : Nat} (h : x < B) : Dg B [x] := fun y hy => by rw [List.mem_singleton.1 hy]; exact h
theorem Dg.zeros {B : Nat} (h : 0 < B) (n : Nat) : Dg B (List.replicate n 0) := fun y hy => by rw [(List.mem_replicate.1 hy).2]; exact h
theorem Dg.get {B : Nat} {a : List Nat} (ha : Dg B a) (i : Nat) (h : i < a.length) : a[i] < B := ha _ (List.getElem_mem h)
theorem Dg.set {B : Nat} {a : List Nat} (ha : Dg B a) (i : Nat) {y : Nat} (h : y < B) : Dg B (a.set i y) := fun x hx => by
  rcases List.mem_or_eq_of_mem_set hx with h1 | h1
  · exact ha x h1
  · rw [h1]; exact h
theorem val_app (B : Nat) (a b : List Nat) : val B (a ++ b) = val B a + B ^ a.length * val B b := by
  induction a with
  | nil => simp [val]
  | cons x a ih =>
    rw [List.cons_append, List.length_cons]
    show x + B * val B (a ++ b) = (x + B * val B a) + _
    rw [ih, Nat.pow_succ, Nat.mul_add, Nat.mul_comm (B ^ a.length) B, Nat.mul_assoc, Nat.add_assoc]
theorem val_one (B x : Nat) : val B [x] = x := by simp [val]
theorem val_zeros (B n : Nat) : val B (List.replicate n 0) = 0 := by
  induction n with
  | zero => rfl
  | succ n ih => rw [List.replicate_succ]; show 0 + B * val B (List.replicate n 0) = 0; rw [ih]; simp
theorem val_lt {B : Nat} {l : List Nat} (h : Dg B l) : val B l < B ^ l.length := by
  induction l with
  | nil => simp [val]
  | cons x l ih =>
    have h1 := ih (fun y hy => h y (List.mem_cons_of_mem _ hy))
    have h2 := h x List.mem_cons_self
    show x + B * val B l < B ^ (l.length + 1)
    rw [Nat.pow_succ, Nat.mul_comm (B ^ l.length) B]
    have h3 : B * (val B l + 1) ≤ B * B ^ l.length := Nat.mul_le_mul_left B h1
    rw [Nat.mul_add] at h3
    omega
theorem val_split (B : Nat) (l : List Nat) (k : Nat) (h : k ≤ l.length) : val B l = val B (l.take k) + B ^ k * val B (l.drop k) := by
  have e := val_app B (l.take k) (l.drop k)
  rw [List.take_append_drop, List.length_take, Nat.min_eq_left h] at e
  exact e
theorem val_take_succ (B : Nat) (l : List Nat) (k : Nat) (h : k < l.length) : val B (l.take (k + 1)) = val B (l.take k) + B ^ k * l[k] := by
  rw [List.take_succ_eq_append_getElem h, val_app, val_one, List.length_take, Nat.min_eq_left (by omega)]
theorem val_drop (B : Nat) (l : List Nat) (k : Nat) (h : k < l.length) : val B (l.drop k) = l[k] + B * val B (l.drop (k + 1)) := by
  rw [List.drop_eq_getElem_cons h]; rfl
theorem val_set (B : Nat) : ∀ (l : List Nat) (i : Nat) (h : i < l.length) (y : Nat), val B (l.set i y) + B ^ i * l[i] = val B l + B ^ i * y := by
  intro l
  induction l with
  | nil => intro i h; simp at h
  | cons x l ih =>
    intro i h y
    cases i with
    | zero => simp [val]; omega
    | succ i =>
      have hi : i < l.length := by simpa using h
      have h1 := ih i hi y
      show (x + B * val B (l.set i y)) + B ^ (i + 1) * l[i] = (x + B * val B l) + B ^ (i + 1) * y
      have e1 : B ^ (i + 1) * l[i] = B * (B ^ i * l[i]) := by rw [Nat.pow_succ, Nat.mul_comm (B ^ i) B, Nat.mul_assoc]
      have e2 : B ^ (i + 1) * y = B * (B ^ i * y) := by rw [Nat.pow_succ, Nat.mul_comm (B ^ i) B, Nat.mul_assoc]
      rw [e1, e2]
      have h2 : B * (val B (l.set i y) + B ^ i * l[i]) = B * (val B l + B ^ i * y) := by rw [h1]
      rw [Nat.mul_add, Nat.mul_add] at h2
      omega
theorem Tr.nil : Tr [] := by simp [Tr]
theorem Tr.last {l : List Nat} (h : Tr l) (hn : 0 < l.length) : l[l.length - 1] ≠ 0 := fun e => by
  apply h
  rw [List.getLast?_eq_getElem?, List.getElem?_eq_getElem (by omega), e]
theorem Tr.of_last {l : List Nat} (h : ∀ hn : 0 < l.length, l[l.length - 1] ≠ 0) : Tr l := fun e => by
  rw [List.getLast?_eq_getElem?] at e
  obtain ⟨h1, h2⟩ := List.getElem?_eq_some_iff.1 e
  exact h (by omega) h2
theorem Tr.le {B : Nat} {l : List Nat} (h : Tr l) (hn : 0 < l.length) : B ^ (l.length - 1) ≤ val B l := by
  have h1 := h.last hn
  rw [val_split B l (l.length - 1) (by omega), val_drop B l (l.length - 1) (by omega), show l.length - 1 + 1 = l.length by omega, List.drop_length]
  generalize l[l.length - 1] = x at *
  have : B ^ (l.length - 1) * 1 ≤ B ^ (l.length - 1) * (x + B * val B []) := Nat.mul_le_mul_left _ (by omega)
  omega
theorem Tr.zero {B : Nat} {l : List Nat} (hB : 0 < B) (h : Tr l) (hv : val B l = 0) : l = [] := by
  rcases Nat.eq_zero_or_pos l.length with h0 | h0
  · exact List.eq_nil_of_length_eq_zero h0
  · have := h.le (B := B) h0
    have := Nat.pow_pos (n := l.length - 1) hB
    omega
theorem val_lt_len {B : Nat} {a b : List Nat} (hB : 0 < B) (ha : Dg B a) (hb : Tr b) (h : a.length < b.length) : val B a < val B b := by
  have h1 := val_lt ha
  have h2 := hb.le (B := B) (by omega)
  have h3 : B ^ a.length ≤ B ^ (b.length - 1) := Nat.pow_le_pow_right hB (by omega)
  omega
theorem val_lt_at {B : Nat} {a b : List Nat} (ha : Dg B a) (hl : a.length = b.length) (i : Nat) (hi : i < a.length) (hd : a.drop (i + 1) = b.drop (i + 1)) (hx : a[i] < b[i]'(by omega)) : val B a < val B b := by
  have h1 := val_lt (ha.take i)
  rw [List.length_take, Nat.min_eq_left (by omega)] at h1
  rw [val_split B a i (by omega), val_split B b i (by omega), val_drop B a i hi, val_drop B b i (by omega), hd]
  generalize val B (b.drop (i + 1)) = r at *
  generalize a[i] = x at *
  generalize b[i] = y at *
  have : B ^ i * (x + 1 + B * r) ≤ B ^ i * (y + B * r) := Nat.mul_le_mul_left _ (by omega)
  have e : B ^ i * (x + 1 + B * r) = B ^ i * (x + B * r) + B ^ i := by rw [show x + 1 + B * r = (x + B * r) + 1 by omega, Nat.mul_succ]
  omega
theorem val_take_zeros {B : Nat} {l : List Nat} {n : Nat} (hn : n ≤ l.length) (h : ∀ x ∈ l.drop n, x = 0) : val B (l.take n) = val B l := by
  rw [val_split B l n hn, show l.drop n = List.replicate (l.drop n).length 0 from List.eq_replicate_of_mem h, val_zeros]; simp
theorem len_le {B : Nat} {l : List Nat} (hB : 2 ≤ B) (h : Tr l) {n : Nat} (hv : val B l < B ^ n) : l.length ≤ n := by
  rcases Nat.eq_zero_or_pos l.length with h0 | h0
  · omega
  · have h1 := h.le (B := B) h0
    have h2 : B ^ (l.length - 1) < B ^ n := by omega
    have := (Nat.pow_lt_pow_iff_right (show 1 < B by omega)).1 h2
    omega
end Go.Proofs.YtflchbejjofppaaGreatDoor
/- Plain: one round of addition, subtraction, multiplication, division by a digit. -/
namespace Go.Proofs.YtflchbejjofppaaGreatDoor
def dig (l : List Nat) (i : Nat) : Nat := l.getD i 0
theorem dig_lt_len {l : List Nat} {i : Nat} (h : i < l.length) : dig l i = l[i] := by
  unfold dig; rw [List.getD_eq_getElem?_getD, List.getElem?_eq_getElem h]; rfl
theorem dig_ge {l : List Nat} {i : Nat} (h : l.length ≤ i) : dig l i = 0 := by
  unfold dig; rw [List.getD_eq_getElem?_getD, List.getElem?_eq_none h]; rfl
theorem Dg.dig {B : Nat} {l : List Nat} (hB : 0 < B) (h : Dg B l) (i : Nat) : dig l i < B := by
  by_cases hi : i < l.length
  · rw [dig_lt_len hi]; exact h.get i hi
  · rw [dig_ge (by omega)]; exact hB
theorem val_take_dig (B : Nat) (l : List Nat) (i : Nat) : val B (l.take (i + 1)) = val B (l.take i) + B ^ i * dig l i := by
  by_cases hi : i < l.length
  · rw [val_take_succ B l i hi, dig_lt_len hi]
  · rw [dig_ge (by omega), List.take_of_length_le (by omega), List.take_of_length_le (by omega)]; simp
structure AddI (B : Nat) (x y d : List Nat) (c i : Nat) : Prop where
  len : d.length = i
  dg : Dg B d
  carry : c ≤ 1
  eq : val B d + B ^ i * c = val B (x.take i) + val B (y.take i)
theorem AddI.start (B : Nat) (x y : List Nat) : AddI B x y [] 0 0 := ⟨rfl, Dg.nil B, by omega, by simp [val]⟩
theorem AddI.step {B : Nat} {x y d : List Nat} {c i : Nat} (hB : 2 ≤ B) (hx : Dg B x) (hy : Dg B y) (h : AddI B x y d c i) {s : Nat} (hs : s = dig x i + dig y i + c) : AddI B x y (d ++ [s % B]) (s / B) (i + 1) := by
  have h1 := hx.dig (by omega) i
  have h2 := hy.dig (by omega) i
  refine ⟨by simp [h.len], h.dg.app (Dg.one (Nat.mod_lt _ (by omega))), ?_, ?_⟩
  · have := h.carry
    have : s < B * 2 := by omega
    have := Nat.div_lt_of_lt_mul this
    omega
  · rw [val_app, val_one, h.len, val_take_dig, val_take_dig, Nat.pow_succ, Nat.mul_assoc, Nat.add_assoc, ← Nat.mul_add, Nat.mod_add_div, hs, Nat.mul_add, Nat.mul_add]
    have := h.eq
    omega
structure SubI (B : Nat) (x y d : List Nat) (c i : Nat) : Prop where
  len : d.length = i
  dg : Dg B d
  carry : c ≤ 1
  eq : val B d + val B (y.take i) = val B (x.take i) + B ^ i * c
theorem SubI.start (B : Nat) (x y : List Nat) : SubI B x y [] 0 0 := ⟨rfl, Dg.nil B, by omega, by simp [val]⟩
theorem SubI.step {B : Nat} {x y d : List Nat} {c i : Nat} (hB : 2 ≤ B) (hx : Dg B x) (hy : Dg B y) (h : SubI B x y d c i) {s c' : Nat} (hs : s + dig y i + c = dig x i + B * c') (hs2 : s < B) (hc : c' ≤ 1) : SubI B x y (d ++ [s]) c' (i + 1) := by
  refine ⟨by simp [h.len], h.dg.app (Dg.one hs2), hc, ?_⟩
  rw [val_app, val_one, h.len, val_take_dig, val_take_dig, Nat.pow_succ, Nat.mul_assoc]
  have := h.eq
  have e : B ^ i * (s + dig y i + c) = B ^ i * (dig x i + B * c') := by rw [hs]
  rw [Nat.mul_add, Nat.mul_add, Nat.mul_add] at e
  omega
theorem SubI.done {B : Nat} {x y d : List Nat} {c : Nat} (h : SubI B x y d c x.length) (hl : y.length ≤ x.length) (hle : val B y ≤ val B x) : c = 0 ∧ val B d = val B x - val B y := by
  have h1 := val_lt h.dg
  have h2 := h.eq
  rw [List.take_of_length_le hl, List.take_of_length_le (Nat.le_refl _)] at h2
  rw [h.len] at h1
  have h3 := h.carry
  rcases (show c = 0 ∨ c = 1 by omega) with rfl | rfl
  · exact ⟨rfl, by omega⟩
  · omega
structure MulI (B : Nat) (o b : List Nat) (base x i j c : Nat) : Prop where
  dg : Dg B o
  carry : c < B
  eq : val B o + B ^ (i + j) * c = base + B ^ i * (x * val B (b.take j))
theorem MulI.step {B : Nat} {o b : List Nat} {base x i j c : Nat} (hB : 2 ≤ B) (hb : Dg B b) (hx : x < B) (h : MulI B o b base x i j c) (hj : j < b.length) (hi : i + j < o.length) {s : Nat} (hs : s = o[i + j] + x * b[j] + c) :
    MulI B (o.set (i + j) (s % B)) b base x i (j + 1) (s / B) := by
  have h1 := h.dg.get _ hi
  have h2 := hb.get _ hj
  have h3 := h.carry
  refine ⟨h.dg.set _ (Nat.mod_lt _ (by omega)), ?_, ?_⟩
  · apply Nat.div_lt_of_lt_mul
    have h4 : x * b[j] ≤ (B - 1) * (B - 1) := Nat.mul_le_mul (by omega) (by omega)
    have h5 : B * B = (B - 1) * (B - 1) + (B - 1) + (B - 1) + 1 := by
      obtain ⟨k, rfl⟩ : ∃ k, B = k + 1 := ⟨B - 1, by omega⟩
      rw [Nat.add_sub_cancel, Nat.mul_add, Nat.add_mul]; omega
    omega
  · have e1 := val_set B o (i + j) hi (s % B)
    have e2 := h.eq
    rw [val_take_succ B b j hj, Nat.mul_add, Nat.mul_add]
    have e3 : B ^ (i + (j + 1)) * (s / B) = B ^ (i + j) * (B * (s / B)) := by rw [show i + (j + 1) = (i + j) + 1 by omega, Nat.pow_succ, Nat.mul_assoc]
    have e4 : B ^ (i + j) * (s % B) + B ^ (i + j) * (B * (s / B)) = B ^ (i + j) * o[i + j] + B ^ (i + j) * (x * b[j]) + B ^ (i + j) * c := by
      rw [← Nat.mul_add, Nat.mod_add_div, hs, Nat.mul_add, Nat.mul_add]
    have e5 : B ^ i * (x * (B ^ j * b[j])) = B ^ (i + j) * (x * b[j]) := by rw [Nat.pow_add, Nat.mul_left_comm x, Nat.mul_assoc]
    rw [e3, e5]
    omega
structure MulO (B : Nat) (o a b : List Nat) (i : Nat) : Prop where
  len : o.length = a.length + b.length
  dg : Dg B o
  zer : ∀ k (h : k < o.length), i + b.length ≤ k → o[k] = 0
  eq : val B o = val B (a.take i) * val B b
theorem MulO.start {B : Nat} (hB : 2 ≤ B) (a b : List Nat) : MulO B (List.replicate (a.length + b.length) 0) a b 0 :=
  ⟨List.length_replicate, Dg.zeros (by omega) _, fun k h _ => List.getElem_replicate h, by rw [val_zeros]; simp [val]⟩
theorem MulO.row {B : Nat} {o a b : List Nat} {i : Nat} (h : MulO B o a b i) (hi : i < a.length) (hB : 2 ≤ B) : MulI B o b (val B (a.take i) * val B b) a[i] i 0 0 :=
  ⟨h.dg, by omega, by rw [h.eq]; simp [val]⟩
theorem MulO.step {B : Nat} {o' a b : List Nat} {i c : Nat} (hi : i < a.length) (hl : o'.length = a.length + b.length) (hz : ∀ k (h : k < o'.length), i + b.length ≤ k → o'[k] = 0)
    (h : MulI B o' b (val B (a.take i) * val B b) a[i] i b.length c) : MulO B (o'.set (i + b.length) c) a b (i + 1) := by
  have hk : i + b.length < o'.length := by omega
  have e1 := val_set B o' (i + b.length) hk c
  rw [hz _ hk (Nat.le_refl _)] at e1
  refine ⟨by simp [hl], h.dg.set _ h.carry, fun k hk2 hge => ?_, ?_⟩
  · rw [List.getElem_set_ne (by omega)]
    exact hz k (by simpa using hk2) (by omega)
  · have e2 := h.eq
    rw [List.take_of_length_le (Nat.le_refl _)] at e2
    rw [val_take_succ B a i hi, Nat.add_mul, Nat.mul_assoc]
    omega
theorem MulO.done {B : Nat} {o a b : List Nat} (h : MulO B o a b a.length) : val B o = val B a * val B b := by
  rw [h.eq, List.take_of_length_le (Nat.le_refl _)]
structure DivI (B : Nat) (a q : List Nat) (d r i : Nat) : Prop where
  len : q.length = a.length
  dg : Dg B (q.drop i)
  rest : r < d
  eq : val B (a.drop i) = val B (q.drop i) * d + r
theorem DivI.start {B : Nat} {a q : List Nat} {d : Nat} (hd : 0 < d) (hl : q.length = a.length) : DivI B a q d 0 a.length := by
  refine ⟨hl, ?_, hd, ?_⟩
  · rw [← hl, List.drop_length]; exact Dg.nil B
  · rw [← hl, List.drop_length, hl, List.drop_length]; simp [val]
theorem DivI.step {B : Nat} {a q : List Nat} {d r i : Nat} (hB : 2 ≤ B) (hdB : d ≤ B) (ha : Dg B a) (hi : i < a.length) (h : DivI B a q d r (i + 1)) {s : Nat} (hs : s = r * B + a[i]) : DivI B a (q.set i (s / d)) d (s % d) i := by
  have hiq : i < q.length := by rw [h.len]; exact hi
  have h1 := ha.get i hi
  have h2 := h.rest
  have hsd : s < d * B := by
    have : (r + 1) * B ≤ d * B := Nat.mul_le_mul_right B h2
    rw [Nat.add_mul] at this
    omega
  have ht : s / d < B := Nat.div_lt_of_lt_mul hsd
  have hdr : (q.set i (s / d)).drop i = s / d :: q.drop (i + 1) := by
    rw [List.drop_eq_getElem_cons (by simpa using hiq), List.getElem_set_self, List.drop_set_of_lt (by omega)]
  refine ⟨by simp [h.len], ?_, Nat.mod_lt _ (by omega), ?_⟩
  · rw [hdr]
    intro x hx
    rcases List.mem_cons.1 hx with rfl | hx
    · exact ht
    · exact h.dg x hx
  · rw [hdr, val_drop B a i hi, h.eq]
    show _ = (s / d + B * val B (q.drop (i + 1))) * d + s % d
    have e := Nat.div_add_mod s d
    rw [Nat.add_mul, Nat.mul_add, Nat.mul_comm (s / d) d, ← Nat.mul_assoc]
    rw [Nat.mul_comm r B] at hs
    omega
theorem DivI.done {B : Nat} {a q : List Nat} {d r : Nat} (h : DivI B a q d r 0) : val B q = val B a / d ∧ r = val B a % d := by
  have e := h.eq
  have hr := h.rest
  simp only [List.drop_zero] at e
  have e2 : val B a = d * val B q + r := by rw [e, Nat.mul_comm]
  rw [e2, Nat.mul_add_div (by omega), Nat.mul_add_mod, Nat.div_eq_of_lt hr, Nat.mod_eq_of_lt hr]
  exact ⟨by omega, rfl⟩
end Go.Proofs.YtflchbejjofppaaGreatDoor
/- Plain: long division. -/
namespace Go.Proofs.YtflchbejjofppaaGreatDoor
theorem guess_high {P B un u1 u2 v1 v2 ru rv t r U V : Nat} (hU : U = P * (B * (B * un + u1) + u2) + ru) (hru : ru < P) (hV : V = P * (B * v1 + v2) + rv) (top : t * v1 + r = B * un + u1) (h : r * B + u2 < t * v2) : U < t * V := by
  have e1 : t * (B * v1 + v2) = B * (t * v1) + t * v2 := by rw [Nat.mul_add, Nat.mul_left_comm]
  have e2 : B * (t * v1) + r * B = B * (B * un + u1) := by rw [← top, Nat.mul_add, Nat.mul_comm r B]
  have e3 : B * (B * un + u1) + u2 + 1 ≤ t * (B * v1 + v2) := by omega
  have e4 : P * (B * (B * un + u1) + u2 + 1) ≤ P * (t * (B * v1 + v2)) := Nat.mul_le_mul_left P e3
  have e5 : t * V = P * (t * (B * v1 + v2)) + t * rv := by rw [hV, Nat.mul_add, Nat.mul_left_comm]
  rw [Nat.mul_add P _ 1] at e4
  omega
theorem guess_low {P B un u1 u2 v1 v2 ru rv t r U V : Nat} (hU : U = P * (B * (B * un + u1) + u2) + ru) (hV : V = P * (B * v1 + v2) + rv) (hrv : rv < P) (hv1 : 1 ≤ v1) (top : t * v1 + r = B * un + u1) (htB : t ≤ B) (h : t * v2 ≤ r * B + u2) : t * V ≤ U + V := by
  have e1 : t * (B * v1 + v2) = B * (t * v1) + t * v2 := by rw [Nat.mul_add, Nat.mul_left_comm]
  have e2 : B * (t * v1) + r * B = B * (B * un + u1) := by rw [← top, Nat.mul_add, Nat.mul_comm r B]
  have e3 : t * (B * v1 + v2) ≤ B * (B * un + u1) + u2 := by omega
  have e4 : P * (t * (B * v1 + v2)) ≤ P * (B * (B * un + u1) + u2) := Nat.mul_le_mul_left P e3
  have e5 : t * V = P * (t * (B * v1 + v2)) + t * rv := by rw [hV, Nat.mul_add, Nat.mul_left_comm]
  have e6 : t * rv ≤ B * P := Nat.mul_le_mul htB (by omega)
  have e7 : B * P * 1 ≤ B * P * v1 := Nat.mul_le_mul_left _ hv1
  have e8 : P * (B * v1 + v2) = B * P * v1 + P * v2 := by rw [Nat.mul_add, ← Nat.mul_assoc, Nat.mul_comm P B]
  omega
structure Win (B : Nat) (w v : List Nat) : Prop where
  dw : Dg B w
  dv : Dg B v
  tv : Tr v
  two : 2 ≤ v.length
  len : v.length < w.length
  zer : ∀ x ∈ w.drop (v.length + 1), x = 0
  lt : val B w < B * val B v
theorem Win.val_w {B : Nat} {w v : List Nat} (h : Win B w v) : val B w = val B (w.take v.length) + B ^ v.length * w[v.length]'h.len := by
  rw [← val_take_zeros h.len h.zer, val_take_succ B w _ h.len]
theorem Win.parts {B : Nat} {w v : List Nat} (h : Win B w v) : ∃ P ru rv, ru < P ∧ rv < P ∧
    val B w = P * (B * (B * w[v.length]'h.len + w[v.length - 1]'(by have := h.len; omega)) + w[v.length - 2]'(by have := h.len; omega)) + ru ∧
    val B v = P * (B * v[v.length - 1]'(by have := h.two; omega) + v[v.length - 2]'(by have := h.two; omega)) + rv := by
  have h2 := h.two
  have hl := h.len
  obtain ⟨n, hn⟩ : ∃ n, v.length = n + 2 := ⟨v.length - 2, by omega⟩
  have e1 : v.length - 1 = n + 1 := by omega
  have e2 : v.length - 2 = n := by omega
  have hv1 : v[v.length - 1]'(by omega) = v[n + 1]'(by omega) := by congr 1
  have hv2 : v[v.length - 2]'(by omega) = v[n]'(by omega) := by congr 1
  have hw0 : w[v.length]'hl = w[n + 2]'(by omega) := by congr 1
  have hw1 : w[v.length - 1]'(by omega) = w[n + 1]'(by omega) := by congr 1
  have hw2 : w[v.length - 2]'(by omega) = w[n]'(by omega) := by congr 1
  refine ⟨B ^ n, val B (w.take n), val B (v.take n), ?_, ?_, ?_, ?_⟩
  · have := val_lt (h.dw.take n); rwa [List.length_take, Nat.min_eq_left (by omega)] at this
  · have := val_lt (h.dv.take n); rwa [List.length_take, Nat.min_eq_left (by omega)] at this
  · rw [hw0, hw1, hw2, ← val_take_zeros (n := n + 3) (by omega) (by have := h.zer; rw [hn] at this; exact this), val_take_succ B w (n + 2) (by omega), val_take_succ B w (n + 1) (by omega), val_take_succ B w n (by omega), Nat.pow_succ, Nat.pow_succ]
    grind
  · have e : val B v = val B (v.take (n + 2)) := by rw [← hn, List.take_of_length_le (Nat.le_refl _)]
    rw [hv1, hv2, e, val_take_succ B v (n + 1) (by omega), val_take_succ B v n (by omega), Nat.pow_succ]
    grind
structure Gue (B : Nat) (w v : List Nat) (un u1 v1 t r : Nat) : Prop where
  top : t * v1 + r = B * un + u1
  ge : val B w < (t + 1) * val B v
theorem Gue.start {B : Nat} {w v : List Nat} (h : Win B w v) {t r : Nat} (top : t * v[v.length - 1]'(by have := h.two; omega) + r = B * w[v.length]'h.len + w[v.length - 1]'(by have := h.len; omega))
    (hr : r < v[v.length - 1]'(by have := h.two; omega)) : Gue B w v (w[v.length]'h.len) (w[v.length - 1]'(by have := h.len; omega)) (v[v.length - 1]'(by have := h.two; omega)) t r := by
  refine ⟨top, ?_⟩
  obtain ⟨P, ru, rv, h1, h2, h3, h4⟩ := h.parts
  have h5 := h.dw.get (v.length - 2) (by have := h.len; omega)
  generalize w[v.length]'h.len = un at *
  generalize w[v.length - 1]'(by have := h.len; omega) = u1 at *
  generalize w[v.length - 2]'(by have := h.len; omega) = u2 at *
  generalize v[v.length - 1]'(by have := h.two; omega) = v1 at *
  generalize v[v.length - 2]'(by have := h.two; omega) = v2 at *
  have e1 : (t + 1) * v1 = t * v1 + v1 := Nat.succ_mul _ _
  have e2 : B * un + u1 + 1 ≤ (t + 1) * v1 := by omega
  have e3 : B * (B * un + u1 + 1) ≤ B * ((t + 1) * v1) := Nat.mul_le_mul_left _ e2
  rw [Nat.mul_add B _ 1] at e3
  have e4 : P * (B * (B * un + u1) + u2 + 1) ≤ P * (B * ((t + 1) * v1)) := Nat.mul_le_mul_left _ (by omega)
  rw [Nat.mul_add P _ 1] at e4
  have e5 : (t + 1) * val B v = P * (B * ((t + 1) * v1)) + ((t + 1) * (P * v2) + (t + 1) * rv) := by rw [h4]; grind
  omega
theorem Gue.step {B : Nat} {w v : List Nat} (h : Win B w v) {t r : Nat} (hg : Gue B w v (w[v.length]'h.len) (w[v.length - 1]'(by have := h.len; omega)) (v[v.length - 1]'(by have := h.two; omega)) t r)
    (hc : B ≤ t ∨ r * B + w[v.length - 2]'(by have := h.len; omega) < t * v[v.length - 2]'(by have := h.two; omega)) : 0 < t ∧ Gue B w v (w[v.length]'h.len) (w[v.length - 1]'(by have := h.len; omega)) (v[v.length - 1]'(by have := h.two; omega)) (t - 1) (r + v[v.length - 1]'(by have := h.two; omega)) := by
  obtain ⟨P, ru, rv, h1, h2, h3, h4⟩ := h.parts
  have hB : 0 < B := by have := h.dw.get (v.length) h.len; omega
  have hlt := h.lt
  have hgt := hg.top
  have hn : 0 < t := by
    rcases hc with hc | hc
    · omega
    · rcases Nat.eq_zero_or_pos t with rfl | h0
      · omega
      · exact h0
  refine ⟨hn, ?_, ?_⟩
  · obtain ⟨t', rfl⟩ : ∃ t', t = t' + 1 := ⟨t - 1, by omega⟩
    rw [Nat.add_sub_cancel]
    rw [Nat.succ_mul] at hgt
    omega
  · rw [show t - 1 + 1 = t by omega]
    rcases hc with hc | hc
    · exact Nat.lt_of_lt_of_le hlt (Nat.mul_le_mul_right _ hc)
    · exact guess_high h3 h1 h4 (by omega) hc
theorem Gue.done {B : Nat} {w v : List Nat} (h : Win B w v) {t r : Nat} (hg : Gue B w v (w[v.length]'h.len) (w[v.length - 1]'(by have := h.len; omega)) (v[v.length - 1]'(by have := h.two; omega)) t r)
    (ht : t ≤ B) (hc : B ≤ r ∨ t * v[v.length - 2]'(by have := h.two; omega) ≤ r * B + w[v.length - 2]'(by have := h.len; omega)) : t * val B v ≤ val B w + val B v := by
  obtain ⟨P, ru, rv, h1, h2, h3, h4⟩ := h.parts
  have hv2 := h.dv.get (v.length - 2) (by have := h.two; omega)
  have hv1 := h.tv.last (by have := h.two; omega)
  have hgt := hg.top
  refine guess_low h3 h4 h2 (by omega) (by omega) ht ?_
  rcases hc with hc | hc
  · have e1 : t * v[v.length - 2]'(by have := h.two; omega) ≤ B * B := Nat.mul_le_mul ht (by omega)
    have e2 : B * B ≤ r * B := Nat.mul_le_mul_right _ hc
    omega
  · exact hc
structure SmI (B : Nat) (w0 v w : List Nat) (t c i : Nat) : Prop where
  len : w.length = w0.length
  dg : Dg B w
  rest : w.drop i = w0.drop i
  eq : val B (w.take i) + t * val B (v.take i) = val B (w0.take i) + B ^ i * c
theorem SmI.start {B : Nat} {w0 v : List Nat} {t : Nat} (h : Dg B w0) : SmI B w0 v w0 t 0 0 := ⟨rfl, h, rfl, by simp [val]⟩
theorem SmI.step {B : Nat} {w0 v w : List Nat} {t c i : Nat} (h : SmI B w0 v w t c i) (hi : i < v.length) (hw : i < w.length) {y c' : Nat} (hy : y < B) (e : y + t * v[i] + c = w[i] + B * c') : SmI B w0 v (w.set i y) t c' (i + 1) := by
  have hw0 : i < w0.length := by rw [← h.len]; exact hw
  have hr := h.rest
  rw [List.drop_eq_getElem_cons hw, List.drop_eq_getElem_cons hw0] at hr
  injection hr with hr1 hr2
  refine ⟨by simp [h.len], h.dg.set _ hy, by rw [List.drop_set_of_lt (by omega)]; exact hr2, ?_⟩
  rw [val_take_succ B (w.set i y) i (by simpa using hw), List.take_set_of_le (Nat.le_refl _), List.getElem_set_self, val_take_succ B v i hi, val_take_succ B w0 i hw0, ← hr1, Nat.mul_add, Nat.pow_succ]
  have e1 := h.eq
  have e2 : B ^ i * (y + t * v[i] + c) = B ^ i * (w[i] + B * c') := by rw [e]
  rw [Nat.mul_add, Nat.mul_add, Nat.mul_add] at e2
  have e3 : t * (B ^ i * v[i]) = B ^ i * (t * v[i]) := Nat.mul_left_comm _ _ _
  rw [e3, Nat.mul_assoc]
  omega
theorem SmI.done {B : Nat} {w0 v w : List Nat} {t c : Nat} (hw : Win B w0 v) (h : SmI B w0 v w t c v.length) (h1 : val B w0 < (t + 1) * val B v) (h2 : t * val B v ≤ val B w0 + val B v) :
    (t * val B v ≤ val B w0 ∧ c = w0[v.length]'hw.len ∧ val B (w.take v.length) + t * val B v = val B w0) ∨
    (val B w0 < t * val B v ∧ c = w0[v.length]'hw.len + 1 ∧ val B (w.take v.length) + t * val B v = val B w0 + B ^ v.length) := by
  have e1 := hw.val_w
  have e2 := h.eq
  rw [List.take_of_length_le (Nat.le_refl _)] at e2
  have e3 := val_lt (h.dg.take v.length)
  rw [List.length_take, Nat.min_eq_left (by rw [h.len]; have := hw.len; omega)] at e3
  have e4 := val_lt hw.dv
  rw [Nat.succ_mul] at h1
  generalize w0[v.length]'hw.len = x at *
  generalize B ^ v.length = P at *
  generalize val B (w.take v.length) = a at *
  generalize val B (w0.take v.length) = b at *
  generalize t * val B v = T at *
  by_cases hT : T ≤ val B w0
  · left
    have h3 : P * c < P * (x + 1) := by rw [Nat.mul_add]; omega
    have h4 := Nat.lt_of_mul_lt_mul_left h3
    have h5 : P * x < P * (c + 1) := by rw [Nat.mul_add]; omega
    have h6 := Nat.lt_of_mul_lt_mul_left h5
    obtain rfl : c = x := by omega
    exact ⟨hT, rfl, by omega⟩
  · right
    have h3 : P * x < P * c := by omega
    have h4 := Nat.lt_of_mul_lt_mul_left h3
    have h5 : P * c < P * (x + 2) := by rw [Nat.mul_add]; omega
    have h6 := Nat.lt_of_mul_lt_mul_left h5
    obtain rfl : c = x + 1 := by omega
    rw [Nat.mul_add] at e2
    exact ⟨by omega, rfl, by omega⟩
structure AbI (B : Nat) (w v w' : List Nat) (c i : Nat) : Prop where
  len : w'.length = w.length
  dg : Dg B w'
  rest : w'.drop i = w.drop i
  carry : c ≤ 1
  eq : val B (w'.take i) + B ^ i * c = val B (w.take i) + val B (v.take i)
theorem AbI.start {B : Nat} {w v : List Nat} (h : Dg B w) : AbI B w v w 0 0 := ⟨rfl, h, rfl, by omega, by simp [val]⟩
theorem AbI.step {B : Nat} {w v w' : List Nat} {c i : Nat} (hv : Dg B v) (h : AbI B w v w' c i) (hi : i < v.length) (hw : i < w'.length) {s : Nat} (hs : s = w'[i] + v[i] + c) : AbI B w v (w'.set i (s % B)) (s / B) (i + 1) := by
  have hw0 : i < w.length := by rw [← h.len]; exact hw
  have hr := h.rest
  have h1 := hv.get i hi
  have h2 := h.dg.get i hw
  have h3 := h.carry
  rw [List.drop_eq_getElem_cons hw, List.drop_eq_getElem_cons hw0] at hr
  injection hr with hr1 hr2
  refine ⟨by simp [h.len], h.dg.set _ (Nat.mod_lt _ (by omega)), by rw [List.drop_set_of_lt (by omega)]; exact hr2, ?_, ?_⟩
  · have : s < B * 2 := by omega
    have := Nat.div_lt_of_lt_mul this
    omega
  · rw [val_take_succ B (w'.set i (s % B)) i (by simpa using hw), List.take_set_of_le (Nat.le_refl _), List.getElem_set_self, val_take_succ B v i hi, val_take_succ B w i hw0, ← hr1, Nat.pow_succ, Nat.mul_assoc, Nat.add_assoc, ← Nat.mul_add, Nat.mod_add_div, hs, Nat.mul_add, Nat.mul_add]
    have := h.eq
    omega
theorem AbI.done {B : Nat} {w0 v w w' : List Nat} {t c : Nat} (hw : Win B w0 v) (hl : w.length = w0.length) (ht : 0 < t) (hlt : val B w0 < t * val B v) (hge : t * val B v ≤ val B w0 + val B v) (hval : val B (w.take v.length) + t * val B v = val B w0 + B ^ v.length) (h : AbI B w v w' c v.length) :
    c = 1 ∧ val B (w'.take v.length) + (t - 1) * val B v = val B w0 := by
  have e2 := h.eq
  rw [List.take_of_length_le (Nat.le_refl _)] at e2
  have e3 := val_lt (h.dg.take v.length)
  rw [List.length_take, Nat.min_eq_left (by rw [h.len, hl]; have := hw.len; omega)] at e3
  have e4 := val_lt hw.dv
  obtain ⟨t', rfl⟩ : ∃ t', t = t' + 1 := ⟨t - 1, by omega⟩
  rw [Nat.succ_mul] at hlt hge hval
  rw [Nat.add_sub_cancel]
  have := h.carry
  rcases (show c = 0 ∨ c = 1 by omega) with rfl | rfl
  · omega
  · exact ⟨rfl, by omega⟩
structure LdI (B A V : Nat) (u q : List Nat) (n j : Nat) : Prop where
  lu : u.length = n + q.length
  du : Dg B u
  dq : Dg B (q.drop j)
  lt : val B u < V * B ^ j
  eq : A = val B (q.drop j) * B ^ j * V + val B u
theorem LdI.start {B A V n : Nat} {u q : List Nat} (hl : u.length = n + q.length) (hd : Dg B u) (ha : val B u = A) (hlt : A < V * B ^ q.length) : LdI B A V u q n q.length := by
  refine ⟨hl, hd, by rw [List.drop_length]; exact Dg.nil B, by rw [ha]; exact hlt, by rw [List.drop_length]; simp [val, ha]⟩
theorem LdI.step {B A : Nat} {v u u' q : List Nat} {k t : Nat} (hv : Dg B v) (hv0 : 0 < val B v) (hk : k < q.length) (h : LdI B A (val B v) u q v.length (k + 1)) (hl : u'.length = u.length) (hd : Dg B u') (ht : u'.take k = u.take k)
    (hz : ∀ x ∈ (u'.drop k).drop v.length, x = 0) (hval : val B ((u'.drop k).take v.length) + t * val B v = val B (u.drop k)) (hlt : val B (u.drop k) < (t + 1) * val B v) (htB : t < B) : LdI B A (val B v) u' (q.set k t) v.length k := by
  have hB : 0 < B := by omega
  have hP : 0 < B ^ k := Nat.pow_pos hB
  have hlu := h.lu
  have hs := val_split B u k (by omega)
  have hs' := val_split B u' k (by omega)
  have e0 := val_take_zeros (B := B) (l := u'.drop k) (n := v.length) (by rw [List.length_drop]; omega) hz
  have hdr : (q.set k t).drop k = t :: q.drop (k + 1) := by
    rw [List.drop_eq_getElem_cons (by simpa using hk), List.getElem_set_self, List.drop_set_of_lt (by omega)]
  have e2 := val_lt (hd.take k)
  rw [List.length_take, Nat.min_eq_left (by omega)] at e2
  refine ⟨by simp [hl, hlu], hd, ?_, ?_, ?_⟩
  · rw [hdr]
    intro x hx
    rcases List.mem_cons.1 hx with rfl | hx
    · exact htB
    · exact h.dq x hx
  · rw [Nat.succ_mul] at hlt
    have e1 : val B (u'.drop k) + 1 ≤ val B v := by omega
    have e3 : B ^ k * (val B (u'.drop k) + 1) ≤ B ^ k * val B v := Nat.mul_le_mul_left _ e1
    rw [Nat.mul_add] at e3
    rw [Nat.mul_comm (val B v)]
    omega
  · rw [h.eq, hdr, hs, hs', ht, ← hval, e0, Nat.pow_succ]
    show _ = (t + B * val B (q.drop (k + 1))) * B ^ k * val B v + _
    grind
theorem LdI.done {B A : Nat} {v u q : List Nat} (hv0 : 0 < val B v) (h : LdI B A (val B v) u q v.length 0) : val B q = A / val B v ∧ val B u = A % val B v ∧ Dg B q := by
  have e := h.eq
  have hr := h.lt
  have hd := h.dq
  simp only [List.drop_zero, Nat.pow_zero, Nat.mul_one] at e hr hd
  have e2 : A = val B v * val B q + val B u := by rw [e, Nat.mul_comm]
  refine ⟨?_, ?_, hd⟩
  · rw [e2, Nat.mul_add_div hv0, Nat.div_eq_of_lt hr]; omega
  · rw [e2, Nat.mul_add_mod, Nat.mod_eq_of_lt hr]
end Go.Proofs.YtflchbejjofppaaGreatDoor
/- Plain: shifts of lists of digits, a quotient of two digits by two. -/
namespace Go.Proofs.YtflchbejjofppaaGreatDoor
structure ShI (B S : Nat) (x d : List Nat) (c i : Nat) : Prop where
  len : d.length = i
  dg : Dg B d
  carry : c < S
  eq : val B d + B ^ i * c = S * val B (x.take i)
theorem ShI.start {B S : Nat} (hS : 0 < S) (x : List Nat) : ShI B S x [] 0 0 := ⟨rfl, Dg.nil B, hS, by simp [val]⟩
theorem ShI.step {B S K : Nat} {x d : List Nat} {c i : Nat} (hK : B = S * K) (hx : Dg B x) (h : ShI B S x d c i) (hi : i < x.length) : c + x[i] * S % B < B ∧ x[i] / K < S ∧ ShI B S x (d ++ [c + x[i] * S % B]) (x[i] / K) (i + 1) := by
  have h1 := hx.get i hi
  have h2 := h.carry
  have hS : 0 < S := by omega
  have hK0 : 0 < K := by
    rcases Nat.eq_zero_or_pos K with h0 | h0
    · rw [h0] at hK; omega
    · exact h0
  have e1 : x[i] * S % B = S * (x[i] % K) := by rw [hK, Nat.mul_comm x[i] S, Nat.mul_mod_mul_left]
  have e2 : x[i] % K < K := Nat.mod_lt _ hK0
  have e3 : S * (x[i] % K + 1) ≤ S * K := Nat.mul_le_mul_left _ e2
  rw [Nat.mul_add] at e3
  have e4 : x[i] / K < S := Nat.div_lt_of_lt_mul (by rw [Nat.mul_comm, ← hK]; exact h1)
  have e5 : c + x[i] * S % B < B := by rw [e1]; omega
  refine ⟨e5, e4, by simp [h.len], h.dg.app (Dg.one e5), e4, ?_⟩
  have h3 := h.eq
  have e6 : S * x[i] = S * (x[i] % K) + B * (x[i] / K) := by
    rw [hK, Nat.mul_assoc, ← Nat.mul_add]
    congr 1
    have := Nat.div_add_mod x[i] K
    omega
  rw [val_app, val_one, h.len, val_take_succ B x i hi, e1, Nat.pow_succ, Nat.mul_add S, Nat.mul_left_comm S, e6]
  rw [Nat.mul_add, Nat.mul_add, Nat.mul_assoc]
  omega
structure UsI (B S : Nat) (u d : List Nat) (i : Nat) : Prop where
  len : d.length = i
  dg : Dg B d
  eq : val B d + B ^ i * (val B (u.drop i) / S) = val B u / S
theorem UsI.start (B S : Nat) (u : List Nat) : UsI B S u [] 0 := ⟨rfl, Dg.nil B, by simp [val]⟩
theorem UsI.step {B S K : Nat} {u d : List Nat} {i : Nat} (hS : 0 < S) (hK : B = S * K) (hu : Dg B u) (h : UsI B S u d i) (hi : i < u.length) : u[i] / S + dig u (i + 1) % S * K < B ∧ UsI B S u (d ++ [u[i] / S + dig u (i + 1) % S * K]) (i + 1) := by
  have h1 := hu.get i hi
  have e1 : u[i] / S < K := Nat.div_lt_of_lt_mul (by rw [← hK]; exact h1)
  have e2 : (dig u (i + 1) % S + 1) * K ≤ S * K := Nat.mul_le_mul_right _ (Nat.mod_lt _ hS)
  rw [Nat.add_mul] at e2
  have e5 : u[i] / S + dig u (i + 1) % S * K < B := by omega
  refine ⟨e5, by simp [h.len], h.dg.app (Dg.one e5), ?_⟩
  have hV : val B (u.drop (i + 1)) % S = dig u (i + 1) % S := by
    by_cases hl : i + 1 < u.length
    · rw [val_drop B u _ hl, dig_lt_len hl, hK, Nat.mul_assoc, Nat.add_mul_mod_self_left]
    · rw [dig_ge (by omega), List.drop_of_length_le (by omega)]; rfl
  have e3 : val B (u.drop i) / S = u[i] / S + K * val B (u.drop (i + 1)) := by
    rw [val_drop B u i hi, hK, Nat.mul_assoc, Nat.add_mul_div_left _ _ hS]
  have e4 : K * val B (u.drop (i + 1)) = B * (val B (u.drop (i + 1)) / S) + dig u (i + 1) % S * K := by
    have := Nat.div_add_mod (val B (u.drop (i + 1))) S
    rw [hV] at this
    generalize val B (u.drop (i + 1)) = V at *
    have e7 : B * (V / S) = K * (S * (V / S)) := by rw [hK, ← Nat.mul_assoc, Nat.mul_comm K S]
    rw [e7, Nat.mul_comm _ K, ← Nat.mul_add, this]
  have h2 := h.eq
  rw [e3, e4] at h2
  rw [val_app, val_one, h.len, Nat.pow_succ]
  rw [Nat.mul_add, Nat.mul_add] at h2
  rw [Nat.mul_add, Nat.mul_assoc]
  omega
theorem div2_done {B T u2 v1 v2 t r : Nat} (top : t * v1 + r = T) (ge : T * B + u2 < (t + 1) * (v1 * B + v2)) (hv2 : v2 < B) (he : (B ≤ r ∧ t ≤ B) ∨ t * v2 ≤ r * B + u2) : t = (T * B + u2) / (v1 * B + v2) ∧ t * (v1 * B + v2) ≤ T * B + u2 := by
  have e1 : t * (v1 * B + v2) ≤ T * B + u2 := by
    have e2 : t * (v1 * B + v2) = (t * v1) * B + t * v2 := by rw [Nat.mul_add, Nat.mul_assoc]
    have e3 : T * B = (t * v1) * B + r * B := by rw [← top, Nat.add_mul]
    have e4 : t * v2 ≤ r * B + u2 := by
      rcases he with ⟨h1, h2⟩ | h1
      · have e5 : t * v2 ≤ B * B := Nat.mul_le_mul h2 (by omega)
        have e6 : B * B ≤ r * B := Nat.mul_le_mul_right _ h1
        omega
      · exact h1
    omega
  refine ⟨?_, e1⟩
  have hp : 0 < v1 * B + v2 := by
    rcases Nat.eq_zero_or_pos (v1 * B + v2) with h0 | h0
    · rw [h0] at ge; omega
    · exact h0
  exact (Nat.div_eq_of_lt_le e1 ge).symm
theorem div2_step {B T u2 v1 v2 t r : Nat} (top : t * v1 + r = T) (hlt : T * B + u2 < B * (v1 * B + v2)) (hc : B ≤ t ∨ r * B + u2 < t * v2) : 0 < t ∧ (t - 1) * v1 + (r + v1) = T ∧ T * B + u2 < (t - 1 + 1) * (v1 * B + v2) := by
  have ht : 0 < t := by
    rcases hc with hc | hc
    · rcases Nat.eq_zero_or_pos B with h0 | h0
      · rw [h0] at hlt; omega
      · omega
    · rcases Nat.eq_zero_or_pos t with rfl | h0
      · omega
      · exact h0
  refine ⟨ht, ?_, ?_⟩
  · obtain ⟨t', rfl⟩ : ∃ t', t = t' + 1 := ⟨t - 1, by omega⟩
    rw [Nat.add_sub_cancel]; rw [Nat.succ_mul] at top; omega
  · rw [show t - 1 + 1 = t by omega]
    rcases hc with hc | hc
    · exact Nat.lt_of_lt_of_le hlt (Nat.mul_le_mul_right _ hc)
    · have e2 : t * (v1 * B + v2) = (t * v1) * B + t * v2 := by rw [Nat.mul_add, Nat.mul_assoc]
      have e3 : T * B = (t * v1) * B + r * B := by rw [← top, Nat.add_mul]
      omega
end Go.Proofs.YtflchbejjofppaaGreatDoor
