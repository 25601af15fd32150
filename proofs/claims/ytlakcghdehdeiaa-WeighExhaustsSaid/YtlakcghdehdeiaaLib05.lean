/- Lemmas on the way to the laws (part 5): Na Nb Nc Ne Nf Ng Nh -/
import Derived.Lib.Hide
import Derived.Test.YtlakcghdehdeiaaLib01
import Derived.RegionTactic
import Derived.WalkSmall
import Derived.RangeFuncNested
import Derived.RangeFuncBound
import Derived.RangeFuncCalls
import Derived.RangeFuncLeaves
import Derived.Shelf.Abstract
import Derived.Shelf.RegionOpen
import Derived.WalkKit
import Derived.OwnWalkIn
import Derived.TacticsInMore
import Derived.LoopNIn
import Derived.LoopIn
import Derived.ArgAppend
set_option linter.unusedVariables false
set_option linter.unusedSimpArgs false

/- Networks of arcs with ranges, with what flows along them: what comes to a node, cuts, and what pushing along a way does. No program here. -/
namespace Go.Proofs.Ytlakcghdehdeiaa

/-- An arc with what flows through it. -/
structure Ac where
  fr : Nat
  to : Nat
  lo : Int
  hi : Int
  fl : Int

def tot {α : Type} (f : α → Int) : List α → Int
  | [] => 0
  | x :: l => f x + tot f l
theorem tot_append {α : Type} (f : α → Int) (l l' : List α) : tot f (l ++ l') = tot f l + tot f l' := by
  induction l with
  | nil => simp [tot]
  | cons x l ih => simp [tot, ih, Int.add_assoc]
theorem tot_le {α : Type} (f g : α → Int) (l : List α) (h : ∀ x ∈ l, f x ≤ g x) : tot f l ≤ tot g l := by
  induction l with
  | nil => simp [tot]
  | cons x l ih =>
    have h1 := h x (by simp)
    have h2 := ih fun y hy => h y (by simp [hy])
    simp only [tot]; omega
theorem tot_congr {α : Type} (f g : α → Int) (l : List α) (h : ∀ x ∈ l, f x = g x) : tot f l = tot g l := by
  induction l with
  | nil => rfl
  | cons x l ih => simp only [tot]; rw [h x (by simp), ih fun y hy => h y (by simp [hy])]
theorem tot_add {α : Type} (f g : α → Int) (l : List α) : tot (fun x => f x + g x) l = tot f l + tot g l := by
  induction l with
  | nil => rfl
  | cons x l ih => simp only [tot, ih]; omega
theorem tot_bound {α : Type} (f : α → Int) (c : Int) (l : List α) (h : ∀ x ∈ l, -c ≤ f x ∧ f x ≤ c) : -(l.length * c) ≤ tot f l ∧ tot f l ≤ l.length * c := by
  induction l with
  | nil => simp [tot]
  | cons x l ih =>
    have h1 := h x (by simp)
    have h2 := ih fun y hy => h y (by simp [hy])
    simp only [tot, List.length_cons, Int.natCast_add, Int.add_mul]; omega

/-- What an arc brings to a node. -/
def Ac.at (a : Ac) (v : Nat) : Int := (if a.to = v then a.fl else 0) - (if a.fr = v then a.fl else 0)
/-- What comes to a node, less what leaves it. -/
def exc (v : Nat) (l : List Ac) : Int := tot (fun a => a.at v) l
/-- What an arc brings into a set. -/
def Ac.into (R : Nat → Bool) (a : Ac) : Int := (if R a.to = true then a.fl else 0) - (if R a.fr = true then a.fl else 0)
def cross (R : Nat → Bool) (l : List Ac) : Int := tot (fun a => a.into R) l

def sumN : Nat → (Nat → Int) → Int
  | 0, _ => 0
  | n + 1, f => sumN n f + f n
theorem sumN_congr (n : Nat) (f g : Nat → Int) (h : ∀ v, v < n → f v = g v) : sumN n f = sumN n g := by
  induction n with
  | zero => rfl
  | succ n ih => simp only [sumN]; rw [ih fun v hv => h v (by omega), h n (by omega)]
theorem sumN_zero (n : Nat) : sumN n (fun _ => 0) = 0 := by
  induction n with
  | zero => rfl
  | succ n ih => simp [sumN, ih]
theorem sumN_add (n : Nat) (f g : Nat → Int) : sumN n (fun v => f v + g v) = sumN n f + sumN n g := by
  induction n with
  | zero => rfl
  | succ n ih => simp only [sumN, ih]; omega
theorem sumN_sub (n : Nat) (f g : Nat → Int) : sumN n (fun v => f v - g v) = sumN n f - sumN n g := by
  induction n with
  | zero => rfl
  | succ n ih => simp only [sumN, ih]; omega
theorem sumN_le (n : Nat) (f g : Nat → Int) (h : ∀ v, v < n → f v ≤ g v) : sumN n f ≤ sumN n g := by
  induction n with
  | zero => simp [sumN]
  | succ n ih =>
    have h1 := h n (by omega)
    have h2 := ih fun v hv => h v (by omega)
    simp only [sumN]; omega
theorem sumN_point (n k : Nat) (c : Int) (hk : k < n) (R : Nat → Bool) : sumN n (fun v => if R v = true then (if k = v then c else 0) else 0) = if R k = true then c else 0 := by
  induction n with
  | zero => omega
  | succ n ih =>
    simp only [sumN]
    by_cases h : k = n
    · subst h
      rw [show sumN k (fun v => if R v = true then (if k = v then c else 0) else 0) = 0 by
        refine (sumN_congr _ _ (fun _ => 0) fun v hv => ?_).trans (sumN_zero k)
        have : k ≠ v := by omega
        simp [this]]
      simp
    · rw [ih (by omega), if_neg h]; simp

/-- Are all ends of arcs nodes below n? -/
def Ends (n : Nat) (l : List Ac) : Prop := ∀ a ∈ l, a.fr < n ∧ a.to < n

theorem sumN_cross (n : Nat) (R : Nat → Bool) (l : List Ac) (h : Ends n l) : sumN n (fun v => if R v = true then exc v l else 0) = cross R l := by
  induction l with
  | nil =>
    exact (sumN_congr _ _ _ fun v _ => by simp [exc, tot]).trans (sumN_zero n)
  | cons a l ih =>
    have ha := h a (by simp)
    have h1 := ih fun b hb => h b (by simp [hb])
    have e : sumN n (fun v => if R v = true then exc v (a :: l) else 0) = sumN n (fun v => ((if R v = true then (if a.to = v then a.fl else 0) else 0) - (if R v = true then (if a.fr = v then a.fl else 0) else 0)) + (if R v = true then exc v l else 0)) :=
      sumN_congr _ _ _ fun v _ => by
        by_cases hv : R v = true
        · simp only [hv, if_true]; rfl
        · simp [hv]
    rw [e, sumN_add, sumN_sub, sumN_point n a.to a.fl ha.2, sumN_point n a.fr a.fl ha.1, h1]
    rfl

/-- The arcs without their flows. -/
def Ac.bare (a : Ac) : Ac := { a with fl := 0 }
def shp (l : List Ac) : List Ac := l.map Ac.bare
theorem shp_length {l l' : List Ac} (h : shp l = shp l') : l.length = l'.length := by
  have := congrArg List.length h; simpa [shp] using this
theorem bare_eq {a b : Ac} (h : a.bare = b.bare) : a.fr = b.fr ∧ a.to = b.to ∧ a.lo = b.lo ∧ a.hi = b.hi := by
  cases a; cases b; simp [Ac.bare] at h; simpa using h
theorem shp_get {l l' : List Ac} (h : shp l = shp l') (i : Nat) (h1 : i < l.length) (h2 : i < l'.length) : l[i].bare = l'[i].bare := by
  have e : (shp l)[i]? = (shp l')[i]? := by rw [h]
  simp only [shp, List.getElem?_map, List.getElem?_eq_getElem h1, List.getElem?_eq_getElem h2, Option.map_some, Option.some.injEq] at e
  exact e
theorem shp_ends {n : Nat} : ∀ {l l' : List Ac}, shp l = shp l' → Ends n l → Ends n l'
  | [], [], _, h => h
  | [], _ :: _, h, _ => by simp [shp] at h
  | _ :: _, [], h, _ => by simp [shp] at h
  | a :: l, b :: l', h, hE => by
    simp only [shp, List.map_cons, List.cons.injEq] at h
    obtain ⟨e1, e2, e3, e4⟩ := bare_eq h.1
    intro c hc
    rcases List.mem_cons.1 hc with rfl | hc
    · have := hE a (by simp); rw [← e1, ← e2]; exact this
    · exact shp_ends h.2 (fun d hd => hE d (by simp [hd])) c hc

def Fits (l : List Ac) : Prop := ∀ a ∈ l, a.lo ≤ a.fl ∧ a.fl ≤ a.hi
/-- An arc that leads out of the set is full, one that leads into it is at its least. -/
def Ac.tight (R : Nat → Bool) (a : Ac) : Prop := (R a.fr = true → R a.to = false → a.hi ≤ a.fl) ∧ (R a.to = true → R a.fr = false → a.fl ≤ a.lo)

theorem cut_le (R : Nat → Bool) : ∀ (l l' : List Ac), shp l = shp l' → Fits l' → (∀ a ∈ l, a.tight R) → cross R l ≤ cross R l'
  | [], [], _, _, _ => Int.le_refl _
  | [], _ :: _, h, _, _ => by simp [shp] at h
  | _ :: _, [], h, _, _ => by simp [shp] at h
  | a :: l, b :: l', h, hF, hT => by
    simp only [shp, List.map_cons, List.cons.injEq] at h
    obtain ⟨e1, e2, e3, e4⟩ := bare_eq h.1
    have ih := cut_le R l l' h.2 (fun d hd => hF d (by simp [hd])) (fun d hd => hT d (by simp [hd]))
    obtain ⟨t1, t2⟩ := hT a (by simp)
    obtain ⟨f1, f2⟩ := hF b (by simp)
    show a.into R + cross R l ≤ b.into R + cross R l'
    have : a.into R ≤ b.into R := by
      unfold Ac.into
      rw [← e1, ← e2]
      cases h1 : R a.fr <;> cases h2 : R a.to
      · simp
      · have := t2 h2 h1; simp; omega
      · have := t1 h1 h2; simp; omega
      · simp
    omega

/-- A circulation: within the ranges, and nothing is left at a node. -/
structure Circ (n : Nat) (l : List Ac) : Prop where
  fits : Fits l
  bal : ∀ v, v < n → exc v l = 0
theorem Circ.cross {n : Nat} {l : List Ac} (h : Circ n l) (hE : Ends n l) (R : Nat → Bool) : cross R l = 0 := by
  rw [← sumN_cross n R l hE]
  exact (sumN_congr _ _ _ fun v hv => by rw [h.bal v hv]; simp).trans (sumN_zero n)

theorem split_at {α : Type} (l : List α) (i : Nat) (h : i < l.length) : l = l.take i ++ l[i] :: l.drop (i + 1) := by
  rw [← List.drop_eq_getElem_cons h, List.take_append_drop]
theorem cross_at (R : Nat → Bool) (l : List Ac) (i : Nat) (h : i < l.length) : cross R l = cross R (l.take i ++ l.drop (i + 1)) + l[i].into R := by
  have e := congrArg (cross R) (split_at l i h)
  rw [e]
  unfold cross
  rw [tot_append, tot_append]
  simp only [tot]
  omega
theorem shp_cut {l l' : List Ac} (h : shp l = shp l') (i : Nat) : shp (l.take i ++ l.drop (i + 1)) = shp (l'.take i ++ l'.drop (i + 1)) := by
  unfold shp at *
  simp only [List.map_append, List.map_take, List.map_drop, h]
theorem mem_cutOut {l : List Ac} {i : Nat} {a : Ac} (h : a ∈ l.take i ++ l.drop (i + 1)) : ∃ j, ∃ hj : j < l.length, j ≠ i ∧ l[j] = a := by
  rcases List.mem_append.1 h with h | h
  · obtain ⟨j, hj, e⟩ := List.mem_iff_getElem.1 h
    have : j < i ∧ j < l.length := by rw [List.length_take] at hj; omega
    exact ⟨j, this.2, by omega, by simpa using e⟩
  · obtain ⟨j, hj, e⟩ := List.mem_iff_getElem.1 h
    have : j < l.length - (i + 1) := by rw [List.length_drop] at hj; exact hj
    exact ⟨i + 1 + j, by omega, by omega, by simpa using e⟩

/-- A set that no step leads out of along which more can flow, arc wo left out. -/
def Closed (R : Nat → Bool) (wo : Int) (l : List Ac) : Prop := ∀ j (h : j < l.length), (j : Int) ≠ wo → l[j].tight R

/-- With a closed set between them, an arc flows as much as it can. -/
theorem most_of_closed {n : Nat} {l l' : List Ac} {i : Nat} {R : Nat → Bool} (hs : shp l = shp l') (hE : Ends n l) (hc : Circ n l) (hc' : Circ n l') (h : i < l.length) (h' : i < l'.length)
    (hC : Closed R i l) (h1 : R l[i].to = true) (h2 : R l[i].fr = false) : l'[i].fl ≤ l[i].fl := by
  have e := hc.cross hE R
  have e' := hc'.cross (shp_ends hs hE) R
  rw [cross_at R l i h] at e
  rw [cross_at R l' i h'] at e'
  have hle := cut_le R _ _ (shp_cut hs i) (fun a ha => by obtain ⟨j, hj, _, rfl⟩ := mem_cutOut ha; exact hc'.fits _ (List.getElem_mem hj)) (fun a ha => by obtain ⟨j, hj, hne, rfl⟩ := mem_cutOut ha; exact hC j hj (by omega))
  obtain ⟨e1, e2, _, _⟩ := bare_eq (shp_get hs i h h')
  have i1 : l[i].into R = l[i].fl := by unfold Ac.into; rw [h1, h2]; simp
  have i2 : l'[i].into R = l'[i].fl := by unfold Ac.into; rw [← e1, ← e2, h1, h2]; simp
  omega
theorem least_of_closed {n : Nat} {l l' : List Ac} {i : Nat} {R : Nat → Bool} (hs : shp l = shp l') (hE : Ends n l) (hc : Circ n l) (hc' : Circ n l') (h : i < l.length) (h' : i < l'.length)
    (hC : Closed R i l) (h1 : R l[i].to = false) (h2 : R l[i].fr = true) : l[i].fl ≤ l'[i].fl := by
  have e := hc.cross hE R
  have e' := hc'.cross (shp_ends hs hE) R
  rw [cross_at R l i h] at e
  rw [cross_at R l' i h'] at e'
  have hle := cut_le R _ _ (shp_cut hs i) (fun a ha => by obtain ⟨j, hj, _, rfl⟩ := mem_cutOut ha; exact hc'.fits _ (List.getElem_mem hj)) (fun a ha => by obtain ⟨j, hj, hne, rfl⟩ := mem_cutOut ha; exact hC j hj (by omega))
  obtain ⟨e1, e2, _, _⟩ := bare_eq (shp_get hs i h h')
  have i1 : l[i].into R = -l[i].fl := by unfold Ac.into; rw [h1, h2]; simp
  have i2 : l'[i].into R = -l'[i].fl := by unfold Ac.into; rw [← e1, ← e2, h1, h2]; simp
  omega

/-! ### Ways -/

/-- A step of a way: an arc, and whether it is passed in its direction. -/
abbrev St := Nat × Bool
def headOf (l : List Ac) (s : St) : Nat := match l[s.1]? with | some a => if s.2 then a.to else a.fr | none => 0
def tailOf (l : List Ac) (s : St) : Nat := match l[s.1]? with | some a => if s.2 then a.fr else a.to | none => 0
def roomOf (l : List Ac) (s : St) : Int := match l[s.1]? with | some a => if s.2 then a.hi - a.fl else a.fl - a.lo | none => 0
/-- A way, from its end back to its start. -/
def Wy (l : List Ac) (wo : Int) : Nat → List St → Nat → Prop
  | v, [], u => v = u
  | v, s :: p, u => s.1 < l.length ∧ (s.1 : Int) ≠ wo ∧ headOf l s = v ∧ Wy l wo (tailOf l s) p u

def bump (l : List Ac) (s : St) (m : Int) : List Ac := l.modify s.1 fun a => { a with fl := if s.2 then a.fl + m else a.fl - m }
def pushes (l : List Ac) : List St → Int → List Ac
  | [], _ => l
  | s :: p, m => pushes (bump l s m) p m

theorem shp_bump (l : List Ac) (s : St) (m : Int) : shp (bump l s m) = shp l := by
  apply List.ext_getElem?
  intro i
  simp only [shp, bump, List.getElem?_map, List.getElem?_modify]
  cases l[i]? with
  | none => simp
  | some a => simp; split <;> rfl
theorem headOf_shp {l l' : List Ac} (h : shp l = shp l') (s : St) : headOf l s = headOf l' s ∧ tailOf l s = tailOf l' s := by
  have hl := shp_length h
  unfold headOf tailOf
  by_cases hs : s.1 < l.length
  · obtain ⟨e1, e2, _, _⟩ := bare_eq (shp_get h s.1 hs (by omega))
    rw [List.getElem?_eq_getElem hs, List.getElem?_eq_getElem (show s.1 < l'.length by omega)]
    simp only [e1, e2, and_self]
  · rw [List.getElem?_eq_none (by omega), List.getElem?_eq_none (by omega)]; exact ⟨rfl, rfl⟩
theorem Wy.shp {l l' : List Ac} (h : shp l = shp l') {wo : Int} : ∀ {p : List St} {v u : Nat}, Wy l wo v p u → Wy l' wo v p u
  | [], _, _, hw => hw
  | s :: p, _, _, ⟨a, b, c, d⟩ => by
    obtain ⟨e1, e2⟩ := headOf_shp h s
    exact ⟨by rw [← shp_length h]; exact a, b, by rw [← e1]; exact c, by rw [← e2]; exact Wy.shp h d⟩

theorem exc_bump (l : List Ac) (s : St) (m : Int) (x : Nat) (h : s.1 < l.length) : exc x (bump l s m) = exc x l + (if headOf l s = x then m else 0) - (if tailOf l s = x then m else 0) := by
  obtain ⟨i, f⟩ := s
  have h : i < l.length := h
  have e : bump l (i, f) m = l.take i ++ { l[i] with fl := if f then l[i].fl + m else l[i].fl - m } :: l.drop (i + 1) := by
    unfold bump
    apply List.ext_getElem?
    intro k
    simp only [List.getElem?_modify]
    rcases Nat.lt_trichotomy k i with hk | rfl | hk
    · rw [List.getElem?_append_left (by simp; omega), List.getElem?_take, if_pos hk]; simp [show i ≠ k by omega]
    · rw [List.getElem?_append_right (by simp; omega)]
      simp [h, show min k l.length = k by omega]
    · rw [List.getElem?_append_right (by simp; omega)]
      rw [show k - (l.take i).length = (k - i - 1) + 1 by simp; omega, List.getElem?_cons_succ, List.getElem?_drop, show i + 1 + (k - i - 1) = k by omega]
      simp [show i ≠ k by omega]
  rw [e]
  have e2 := congrArg (exc x) (split_at l i h)
  rw [e2]
  unfold exc headOf tailOf
  rw [tot_append, tot_append, List.getElem?_eq_getElem h]
  simp only [tot, Ac.at]
  cases f <;> simp <;> (repeat' split) <;> omega

theorem exc_pushes {wo : Int} (x : Nat) (m : Int) : ∀ {p : List St} {l : List Ac} {v u : Nat}, Wy l wo v p u → exc x (pushes l p m) = exc x l + (if v = x then m else 0) - (if u = x then m else 0)
  | [], _, v, u, h => by
    obtain rfl : v = u := h
    simp only [pushes]; omega
  | s :: p, l, v, u, ⟨h1, h2, h3, h4⟩ => by
    rw [pushes, exc_pushes x m (Wy.shp (shp_bump l s m).symm h4), exc_bump l s m x h1, h3]
    omega
theorem shp_pushes (m : Int) : ∀ (p : List St) (l : List Ac), shp (pushes l p m) = shp l
  | [], _ => rfl
  | s :: p, l => by rw [pushes, shp_pushes m p, shp_bump]
theorem pushes_length (m : Int) (p : List St) (l : List Ac) : (pushes l p m).length = l.length := shp_length (shp_pushes m p l)

theorem bump_get_other (l : List Ac) (s : St) (m : Int) {i : Nat} (h : i ≠ s.1) : (bump l s m)[i]? = l[i]? := by
  simp [bump, Ne.symm h]
theorem bump_length (l : List Ac) (s : St) (m : Int) : (bump l s m).length = l.length := by simp [bump]
theorem roomOf_bump_other (l : List Ac) (s t : St) (m : Int) (h : t.1 ≠ s.1) : roomOf (bump l s m) t = roomOf l t := by
  unfold roomOf; rw [bump_get_other l s m h]
theorem fits_iff (l : List Ac) : Fits l ↔ ∀ (i : Nat) (a : Ac), l[i]? = some a → a.lo ≤ a.fl ∧ a.fl ≤ a.hi :=
  ⟨fun h i a e => h a (List.mem_of_getElem? e), fun h a ha => by obtain ⟨i, e⟩ := List.mem_iff_getElem?.1 ha; exact h i a e⟩
theorem fits_bump {l : List Ac} {s : St} {m : Int} (h : Fits l) (h0 : 0 ≤ m) (hm : m ≤ roomOf l s) : Fits (bump l s m) := by
  rw [fits_iff] at *
  intro i a e
  by_cases hi : i = s.1
  · subst hi
    unfold bump at e
    simp only [List.getElem?_modify, if_true] at e
    unfold roomOf at hm
    cases hb : l[s.1]? with
    | none => rw [hb] at e; simp at e
    | some b =>
      rw [hb] at e hm
      simp only [Option.map_eq_map, Option.map_some, Option.some.injEq] at e hm
      obtain ⟨h1, h2⟩ := h _ b hb
      subst e
      dsimp only
      cases hs : s.2 <;> simp only [hs, if_true, if_false, Bool.false_eq_true] at hm ⊢ <;> omega
  · rw [bump_get_other l s m hi] at e
    exact h i a e
theorem fits_pushes {m : Int} (h0 : 0 ≤ m) : ∀ {p : List St} {l : List Ac}, Fits l → (p.map Prod.fst).Nodup → (∀ s ∈ p, m ≤ roomOf l s) → Fits (pushes l p m)
  | [], _, h, _, _ => h
  | s :: p, l, h, hn, hm => by
    simp only [List.map_cons, List.nodup_cons] at hn
    show Fits (pushes (bump l s m) p m)
    refine fits_pushes h0 (fits_bump h h0 (hm s (by simp))) hn.2 fun t ht => ?_
    have hne : t.1 ≠ s.1 := fun e => hn.1 (by rw [← e]; exact List.mem_map_of_mem ht)
    rw [roomOf_bump_other l s t m hne]
    exact hm t (by simp [ht])
theorem pushes_get_other {m : Int} {i : Nat} : ∀ {p : List St} {l : List Ac}, (∀ s ∈ p, s.1 ≠ i) → (pushes l p m)[i]? = l[i]?
  | [], _, _ => rfl
  | s :: p, l, h => by
    rw [pushes, pushes_get_other (p := p) fun t ht => h t (by simp [ht]), bump_get_other l s m (Ne.symm (h s (by simp)))]
theorem Wy.avoid {l : List Ac} {wo : Int} : ∀ {p : List St} {v u : Nat}, Wy l wo v p u → ∀ s ∈ p, s.1 < l.length ∧ (s.1 : Int) ≠ wo
  | [], _, _, _, s, hs => by simp at hs
  | t :: p, _, _, ⟨a, b, _, d⟩, s, hs => by
    rcases List.mem_cons.1 hs with rfl | hs
    · exact ⟨a, b⟩
    · exact Wy.avoid d s hs

/-- Steps whose ends rank above their beginnings are steps of different arcs. -/
theorem Wy.nodup {l : List Ac} {wo : Int} {rk : Nat → Nat} : ∀ {p : List St} {v u : Nat}, Wy l wo v p u → (∀ s ∈ p, rk (tailOf l s) < rk (headOf l s)) →
    (p.map Prod.fst).Nodup ∧ ∀ s ∈ p, rk (headOf l s) ≤ rk v
  | [], _, _, _, _ => ⟨by simp, by simp⟩
  | s :: p, v, u, ⟨h1, h2, h3, h4⟩, hr => by
    obtain ⟨i1, i2⟩ := Wy.nodup h4 fun t ht => hr t (by simp [ht])
    have hs := hr s (by simp)
    refine ⟨?_, fun t ht => ?_⟩
    · simp only [List.map_cons, List.nodup_cons]
      refine ⟨fun hm => ?_, i1⟩
      obtain ⟨t, ht, e⟩ := List.mem_map.1 hm
      have k1 := i2 t ht
      have k2 := hr t (by simp [ht])
      obtain ⟨i, f⟩ := s
      obtain ⟨i', g⟩ := t
      obtain rfl : i' = i := e
      have h1 : i' < l.length := h1
      unfold headOf tailOf at *
      rw [List.getElem?_eq_getElem h1] at *
      cases f <;> cases g <;> simp at k1 k2 hs <;> omega
    · rcases List.mem_cons.1 ht with rfl | ht
      · rw [h3]; exact Nat.le_refl _
      · have := i2 t ht
        rw [h3] at hs; omega

/-- No way leads out of a closed set. -/
theorem Closed.no_way {R : Nat → Bool} {wo : Int} {l : List Ac} (hC : Closed R wo l) : ∀ {p : List St} {v u : Nat}, Wy l wo v p u → (∀ s ∈ p, 0 < roomOf l s) → R u = true → R v = true
  | [], v, u, h, _, hu => by obtain rfl : v = u := h; exact hu
  | s :: p, v, u, ⟨h1, h2, h3, h4⟩, hr, hu => by
    have ht := Closed.no_way hC h4 (fun t ht => hr t (by simp [ht])) hu
    have h0 := hr s (by simp)
    obtain ⟨t1, t2⟩ := hC s.1 h1 h2
    unfold headOf at h3
    unfold tailOf at ht
    unfold roomOf at h0
    rw [List.getElem?_eq_getElem h1] at h3 ht h0
    rw [← h3]
    cases hs : s.2 <;> simp only [hs, if_true, if_false, Bool.false_eq_true] at ht h0 ⊢
    · cases hx : R (l[s.1]).fr with
      | true => rfl
      | false => have := t2 ht hx; omega
    · cases hx : R (l[s.1]).to with
      | true => rfl
      | false => have := t1 ht hx; omega
end Go.Proofs.Ytlakcghdehdeiaa

/- Networks in memory: the record of a network, its row of arcs; walks of room. -/
namespace Go.Proofs.Ytlakcghdehdeiaa
open Go Go.Proofs Go.RowKit

def Ac.encW (a : Ac) : List Value := [.int .i64 a.lo, .int .i64 a.hi, .int .i64 a.fr, .int .i64 a.to, .int .i64 a.fl]
theorem Ac.encW_len (a : Ac) : a.encW.length = 5 := rfl
def Ac.encR (a : Ac) : List Value := [.int .i64 a.fr, .int .i64 a.to, .int .i64 a.lo, .int .i64 a.hi, .int .i64 a.fl]
theorem Ac.encR_len (a : Ac) : a.encR.length = 5 := rfl

/-- The cells of a network's record: its slice of arcs, how many tickets and places, which nodes the last search reached. -/
def netCells (v : Value) (tk pl : Nat) (rc : List Bool) : List Value := v :: .int .i64 tk :: .int .i64 pl :: rc.map Value.bool
/-- A network in memory: its record in block nb, its arcs a slice v that is owned from B on. -/
structure NetR (w : World) (B nb : Nat) (v : Value) (l : List Ac) (tk pl : Nat) (rc : List Bool) : Prop where
  box : Box w nb 110 (netCells v tk pl rc)
  own : Own Ac.encW 5 106 w B v l
  ne : v.ownBlock ≠ some nb
  n36 : rc.length = 36
theorem NetR.later {w w' : World} {B nb : Nat} {v : Value} {l : List Ac} {tk pl : Nat} {rc : List Bool} (h : NetR w B nb v l tk pl rc) (hb : Below w.heap.size w w') : NetR w' B nb v l tk pl rc :=
  ⟨h.box.later hb, h.own.later hb, h.ne, h.n36⟩
theorem NetR.alloc {w : World} {B nb : Nat} {v : Value} {l : List Ac} {tk pl : Nat} {rc : List Bool} (h : NetR w B nb v l tk pl rc) (o : Obj) : NetR (w.alloc o) B nb v l tk pl rc :=
  ⟨h.box.alloc o, h.own.alloc o, h.ne, h.n36⟩

/-- Its slice of arcs alone. -/
structure NetA (w : World) (B nb : Nat) (v : Value) (l : List Ac) : Prop where
  c0 : w.cell? ⟨nb, 0, none⟩ = some v
  lt : nb < w.heap.size
  own : Own Ac.encW 5 106 w B v l
theorem NetR.toA {w : World} {B nb : Nat} {v : Value} {l : List Ac} {tk pl : Nat} {rc : List Bool} (h : NetR w B nb v l tk pl rc) : NetA w B nb v l :=
  ⟨by have := h.box.cell 0; simpa [netCells] using this, h.box.lt, h.own⟩
theorem NetA.later {w w' : World} {B nb : Nat} {v : Value} {l : List Ac} (h : NetA w B nb v l) (hb : Below w.heap.size w w') : NetA w' B nb v l :=
  ⟨(hb.cell (p := ⟨nb, 0, none⟩) h.lt).trans h.c0, Nat.lt_of_lt_of_le h.lt hb.size, h.own.later hb⟩
theorem NetA.alloc {w : World} {B nb : Nat} {v : Value} {l : List Ac} (h : NetA w B nb v l) (o : Obj) : NetA (w.alloc o) B nb v l :=
  h.later ((Below.refl _ _).alloc (Nat.le_refl _) _)

/-- The flows and ranges are small. -/
def Small (l : List Ac) (c : Int) : Prop := ∀ a ∈ l, -c ≤ a.lo ∧ a.lo ≤ c ∧ -c ≤ a.hi ∧ a.hi ≤ c ∧ -c ≤ a.fl ∧ a.fl ≤ c

set_option maxHeartbeats 400000 in
theorem room97 (w : World) (B nb : Nat) (v : Value) (l : List Ac) (i : Nat) (f : Bool) (h : NetA w B nb v l) (hi : i < l.length) (hl : l.length ≤ 1000) (hs : Small l 1000000000000) :
    Calls Try.prog 97 #[.pointer (some ⟨nb, 0, none⟩), .agg #[.int .i64 i, .bool f]] w (Ret (.int .i64 (roomOf l (i, f))) w) := by
  obtain ⟨g, cap, rfl, hg, hgs⟩ := h.own.form (by omega)
  have c0 := h.c0
  obtain ⟨e0, e1, e2, e3, e4⟩ := (h.own.at Ac.encW_len i hi).c5
  have hb := h.lt
  have hsm := hs l[i] (List.getElem_mem hi)
  obtain ⟨R, hR⟩ : ∃ R, roomOf l (i, f) = R := ⟨_, rfl⟩
  rw [hR]
  unfold roomOf at hR
  simp only [List.getElem?_eq_getElem hi] at hR
  generalize l[i] = a at *
  obtain ⟨fr, to, lo, hi', fl⟩ := a
  obtain ⟨s1, s2, s3, s4, s5, s6⟩ := hsm
  dsimp only at *
  have hl' := Lib.hid hl
  have HR := Lib.hid hR
  clear hR
  clear h hs
  go_enter Try.func97, Try.ntmps97
  cases f
  all_goals
    go_wp2
    go_region
    go_wp2
    go_ret
    refine Ret.mk (by rw [← HR.out]; rfl) ?_
    repeat (first | exact Below.refl _ _ | exact Below.refl _ _ | refine Below.setCell ?_ (by first | (dsimp only; omega) | (simp; done) | (simp; omega)) _ | refine Below.alloc ?_ (by first | omega | (simp; done) | (simp; omega)) _ | refine Below.drew ?_)
end Go.Proofs.Ytlakcghdehdeiaa

/- Walks: the iterator of a network's steps. -/
namespace Go.Proofs.Ytlakcghdehdeiaa
open Go Go.Proofs Go.RowKit Go.Shelf
attribute [local go_sem] Oper.semAt_some

/-- The step along arc i from a node, if more can flow along it, and the node to which it leads. -/
def stepAt (l : List Ac) (u : Nat) (wo : Int) (i : Nat) : Option (St × Nat) :=
  match l[i]? with
  | none => none
  | some a =>
    let f := decide (a.fr = u)
    if (i : Int) = wo ∨ (a.fr ≠ u ∧ a.to ≠ u) ∨ roomOf l (i, f) ≤ 0 then none else some ((i, f), if f then a.to else a.fr)
def stepsTo (l : List Ac) (u : Nat) (wo : Int) (k : Nat) : List (St × Nat) := (List.range k).filterMap (stepAt l u wo)
theorem stepsTo_succ (l : List Ac) (u : Nat) (wo : Int) (k : Nat) : stepsTo l u wo (k + 1) = stepsTo l u wo k ++ (stepAt l u wo k).toList := by
  unfold stepsTo
  rw [List.range_succ, List.filterMap_append]
  congr 1
theorem stepsTo_len (l : List Ac) (u : Nat) (wo : Int) (k : Nat) : (stepsTo l u wo k).length ≤ k := by
  have := List.length_filterMap_le (stepAt l u wo) (List.range k); simpa [stepsTo] using this
theorem stepsTo_pre (l : List Ac) (u : Nat) (wo : Int) {k n : Nat} (h : k ≤ n) : stepsTo l u wo k <+: stepsTo l u wo n := by
  induction n with
  | zero => obtain rfl : k = 0 := by omega
            exact List.prefix_refl _
  | succ n ih =>
    by_cases e : k = n + 1
    · subst e; exact List.prefix_refl _
    · exact (ih (by omega)).trans (by rw [stepsTo_succ]; exact List.prefix_append _ _)
def encSt (x : St × Nat) : Array Value := #[.agg #[.int .i64 x.1.1, .bool x.1.2], .int .i64 x.2]

set_option maxHeartbeats 400000 in
theorem steps96 (nb u : Nat) (wo : Int) (w : World) :
    Calls Try.prog 96 #[.pointer (some ⟨nb, 0, none⟩), .int .i64 u, .int .i64 wo] w fun e w' =>
      e = .returned (.func (.func 99) #[] #[.pointer (some ⟨w.heap.size, 0, none⟩), .pointer (some ⟨w.heap.size + 1, 0, none⟩), .pointer (some ⟨w.heap.size + 1 + 1, 0, none⟩)]) ∧
      ((w.alloc (.cells #[.pointer (some ⟨nb, 0, none⟩)] 90)).alloc (.cells #[.int .i64 u] 3)).alloc (.cells #[.int .i64 wo] 3) = w' := by
  go_enter Try.func96, Try.ntmps96
  go_wp2
  go_ret
  exact ⟨rfl, rfl⟩

/-- What the iterator reads: its three captured variables, and the network's arcs. -/
structure ItR (w : World) (p B nb : Nat) (v : Value) (l : List Ac) (u : Nat) (wo : Int) : Prop where
  b1 : Box w p 90 [.pointer (some ⟨nb, 0, none⟩)]
  b2 : Box w (p + 1) 3 [.int .i64 u]
  b3 : Box w (p + 1 + 1) 3 [.int .i64 wo]
  net : NetA w B nb v l
theorem ItR.later {w w' : World} {p B nb : Nat} {v : Value} {l : List Ac} {u : Nat} {wo : Int} (h : ItR w p B nb v l u wo) (hb : Below w.heap.size w w') : ItR w' p B nb v l u wo :=
  ⟨h.b1.later hb, h.b2.later hb, h.b3.later hb, h.net.later hb⟩

/-- What a round that goes on keeps. -/
structure KpS (p B nb : Nat) (v : Value) (l : List Ac) (u : Nat) (wo : Int) (w w' : World) : Prop where
  it : ItR w p B nb v l u wo → ItR w' p B nb v l u wo
  size : w.heap.size ≤ w'.heap.size
theorem KpS.t {p B nb : Nat} {v : Value} {l : List Ac} {u : Nat} {wo : Int} {x y z : World} (h : KpS p B nb v l u wo x y) (k : KpS p B nb v l u wo y z) : KpS p B nb v l u wo x z :=
  ⟨fun i => k.it (h.it i), Nat.le_trans h.size k.size⟩

set_option maxRecDepth 100000 in
set_option maxHeartbeats 1000000 in
theorem steps99 (n : Nat) (hn : 2 ≤ n) (p B nb : Nat) (v : Value) (l : List Ac) (u : Nat) (wo : Int) (hl : l.length ≤ 1000) (hs : Small l 1000000000000) (lp : Nat) (J Jx : List (St × Nat) → World → Prop) (W : World) (hit : ItR W p B nb v l u wo)
    (hJ : AbidesFrom W.heap.size J)
    (hY : ∀ pre x W1, x ∈ stepsTo l u wo l.length → J pre W1 → pre.length < 1000 → YieldAt Fence.wide (n - 1) Try.prog lp (encSt x) W1 fun e W' =>
      (e = .returned (.bool true) ∧ J (pre ++ [x]) W' ∧ KpS p B nb v l u wo W1 W') ∨ (e = .returned (.bool false) ∧ Jx (pre ++ [x]) W'))
    (h0 : J [] W) :
    CallsIn Fence.wide n Try.prog 99 (#[.func (.yield lp) #[] #[]] ++ #[.pointer (some ⟨p, 0, none⟩), .pointer (some ⟨p + 1, 0, none⟩), .pointer (some ⟨p + 1 + 1, 0, none⟩)]) W fun e W' => (∃ v, e = .returned v) ∧
      ((∃ xs, xs = stepsTo l u wo l.length ∧ J xs W') ∨ (∃ pre, pre <+: stepsTo l u wo l.length ∧ Jx pre W')) := by
  have h1 : 1 ≤ n := by omega
  refine callsIn_of_wp Try.func99 rfl trivial ?_ rfl
  simp only [Try.ntmps99, List.size_toArray, List.length_cons, List.length_nil, Nat.reduceAdd, Nat.reduceSub, Array.replicate_succ, Array.replicate_zero, List.push_toArray, List.append_toArray, List.nil_append, List.cons_append]
  have d1 := hit.b1.cell 0
  have z1 := hit.b1.lt
  simp only [List.getElem?_cons_zero] at d1
  have c0 := hit.net.c0
  have z0 := hit.net.lt
  obtain ⟨va, cap, rfl⟩ := hit.net.own.shape
  have HIT := Lib.hid hit
  clear hit
  gi_wp2
  gi_loopw [14] (fun j wr => ∃ k : Nat, k ≤ l.length ∧ j = .int .i64 k ∧ J (stepsTo l u wo k) wr ∧ ItR wr p B nb (.slice va l.length cap) l u wo) (fun j _ => l.length - (intOf j).toNat)
  case atStart => exact ⟨0, by omega, rfl, h0, HIT.out⟩
  case round =>
    obtain ⟨k, hk, rfl, hJk, hit⟩ := hrel
    by_cases hlt : k < l.length
    · obtain ⟨g, cap', e1, hg, hgs⟩ := hit.net.own.form (by omega)
      cases e1
      obtain ⟨e0, e1, e2, e3, e4⟩ := (hit.net.own.at Ac.encW_len k hlt).c5
      have y1 := hit.b1.cell 0
      have y2 := hit.b2.cell 0
      have y3 := hit.b3.cell 0
      have y4 := hit.b1.lt
      have y5 := hit.b2.lt
      have y6 := hit.b3.lt
      simp only [List.getElem?_cons_zero] at y1 y2 y3
      have HC : Hid (∀ (w' : World) (f : Bool), Below wr.heap.size wr w' → Calls Try.prog 97 #[.pointer (some ⟨nb, 0, none⟩), .agg #[.int .i64 k, .bool f]] w' (Ret (.int .i64 (roomOf l (k, f))) w')) := Lib.hid (fun w' f hb => room97 w' B nb _ l k f (hit.net.later hb) hlt hl hs)
      have HS := Lib.hid (stepsTo_succ l u wo k)
      have HPL := Lib.hid (stepsTo_len l u wo k)
      have HPX := Lib.hid (stepsTo_pre l u wo (show k + 1 ≤ l.length by omega))
      obtain ⟨o, ho⟩ : ∃ o, stepAt l u wo k = o := ⟨_, rfl⟩
      rw [ho] at HS
      have HO : Hid (o = if (k : Int) = wo ∨ (l[k].fr ≠ u ∧ l[k].to ≠ u) ∨ roomOf l (k, decide (l[k].fr = u)) ≤ 0 then none else some ((k, decide (l[k].fr = u)), if decide (l[k].fr = u) then l[k].to else l[k].fr)) := by
        rw [← ho]; unfold stepAt; rw [List.getElem?_eq_getElem hlt]; exact Lib.hid rfl
      clear ho
      have HJ := Lib.hid hJk
      have HY := Lib.hid (fun x wr' hx h => hY (stepsTo l u wo k) x wr' hx h (by have := HPL.out; omega))
      have HIT2 := Lib.hid hit
      clear hit hJk
      generalize l[k] = a at *
      obtain ⟨fr, to, lo, hi', fl⟩ := a
      dsimp only at *
      by_cases q : fr = u
      · have q1 : ((fr : Int) == (u : Int)) = true := beq_iff_eq.2 (by omega)
        have q2 : ((fr : Int) != (u : Int)) = false := by rw [q]; simp
        simp only [decide_eq_true q] at HO
        have HQ := Lib.hid q
        clear q
        have hB := Lib.hid (((Below.refl wr.heap.size wr).alloc (Nat.le_refl _) (.cells #[.int .i64 lo, .int .i64 hi', .int .i64 fr, .int .i64 to, .int .i64 fl] 106)).alloc (by simp) (.cells #[.int .i64 k, .bool true] 129))
        by_cases hw : (k : Int) = wo
        · have q3 : ((k : Int) == wo) = true := beq_iff_eq.2 hw
          rw [if_pos (Or.inl hw)] at HO
          have HW := Lib.hid hw
          clear hw
          gi_wp2
          refine ⟨trivial, ?_⟩
          gi_wp2
          go_roundw
          case rel =>
            have hbz := hB.out
            refine ⟨k + 1, by omega, by go_num, ?_, HIT2.out.later hbz⟩
            rw [HS.out, HO.out]
            simp only [Option.toList_none, List.append_nil]
            exact hJ _ _ _ none HJ.out ⟨hbz.os, hbz.tape, hbz.output, hbz.size, fun k hk _ => hbz.block k hk⟩ (fun r e => by cases e)
          case measure => simp [intOf]; omega
        have q3 : ((k : Int) == wo) = false := beq_eq_false_iff_ne.2 hw
        have HW := Lib.hid hw
        clear hw
        have HC2 := Lib.hid (HC.out _ true hB.out)
        obtain ⟨R, hR⟩ : ∃ R, roomOf l (k, true) = R := ⟨_, rfl⟩
        rw [hR] at HC2 HO
        clear hR HC
        by_cases hR0 : R ≤ 0
        · rw [if_pos (Or.inr (Or.inr hR0))] at HO
          gi_wp2
          refine ⟨trivial, ?_⟩
          refine (callsIn_wide.2 HC2.out).mono ?_
          rintro e w3 ⟨rfl, hb3⟩
          gi_wp2
          go_roundw
          case rel =>
            have hbz := hB.out.trans (hb3.mono hB.out.size)
            refine ⟨k + 1, by omega, by go_num, ?_, HIT2.out.later hbz⟩
            rw [HS.out, HO.out]
            simp only [Option.toList_none, List.append_nil]
            exact hJ _ _ _ none HJ.out ⟨hbz.os, hbz.tape, hbz.output, hbz.size, fun k hk _ => hbz.block k hk⟩ (fun r e => by cases e)
          case measure => simp [intOf]; omega
        · rw [if_neg (by intro hor; rcases hor with h | h | h; exact HW.out h; exact h.1 HQ.out; exact hR0 h)] at HO
          gi_wp2
          refine ⟨trivial, ?_⟩
          refine (callsIn_wide.2 HC2.out).mono ?_
          rintro e w3 ⟨rfl, hb3⟩
          have hbz := Lib.hid (hB.out.trans (hb3.mono hB.out.size))
          have hJ3 : J (stepsTo l u wo k) w3 := hJ _ _ _ none HJ.out ⟨hbz.out.os, hbz.out.tape, hbz.out.output, hbz.out.size, fun k hk _ => hbz.out.block k hk⟩ (fun r e => by cases e)
          obtain ⟨fn, tmps, assign, body, hy, hRR⟩ := HY.out ((k, true), to) _ (HPX.out.subset (by rw [HS.out, HO.out]; simp)) hJ3
          dsimp only [encSt] at hy
          have hbx := (Box.newAt (wr.alloc (.cells #[.int .i64 lo, .int .i64 hi', .int .i64 fr, .int .i64 to, .int .i64 fl] 106)) #[.int .i64 k, .bool true] 129 (by simp : _ = wr.heap.size + 1)).later hb3
          have x0 := hbx.cell 0
          have x1 := hbx.cell 1
          have x2 := hbx.lt
          simp only [List.getElem?_cons_zero, List.getElem?_cons_succ] at x0 x1
          have HJ3 := Lib.hid hJ3
          clear hJ3
          gi_wp2
          refine hRR.mono ?_
          rintro e W3 (⟨rfl, hJ4, hk4⟩ | ⟨rfl, hJx4⟩)
          · gi_wp2
            go_roundw
            case rel =>
              refine ⟨k + 1, by omega, by go_num, ?_, hk4.it (HIT2.out.later hbz.out)⟩
              rw [HS.out, HO.out]
              exact hJ4
            case measure => simp [intOf]; omega
          · gi_wp2
            refine bodyPost_ret (results_none rfl _ _ _) rfl ?_
            refine ⟨⟨_, rfl⟩, .inr ⟨_, ?_, hJx4⟩⟩
            have h := HPX.out
            rw [HS.out, HO.out] at h
            exact h
      · have q1 : ((fr : Int) == (u : Int)) = false := beq_eq_false_iff_ne.2 (by omega)
        have q2 : ((fr : Int) != (u : Int)) = true := by rw [bne_iff_ne]; omega
        simp only [decide_eq_false q] at HO
        have HQ := Lib.hid q
        clear q
        have hB := Lib.hid (((Below.refl wr.heap.size wr).alloc (Nat.le_refl _) (.cells #[.int .i64 lo, .int .i64 hi', .int .i64 fr, .int .i64 to, .int .i64 fl] 106)).alloc (by simp) (.cells #[.int .i64 k, .bool false] 129))
        by_cases hw : (k : Int) = wo
        · have q3 : ((k : Int) == wo) = true := beq_iff_eq.2 hw
          rw [if_pos (Or.inl hw)] at HO
          have HW := Lib.hid hw
          clear hw
          gi_wp2
          refine ⟨trivial, ?_⟩
          gi_wp2
          go_roundw
          case rel =>
            have hbz := hB.out
            refine ⟨k + 1, by omega, by go_num, ?_, HIT2.out.later hbz⟩
            rw [HS.out, HO.out]
            simp only [Option.toList_none, List.append_nil]
            exact hJ _ _ _ none HJ.out ⟨hbz.os, hbz.tape, hbz.output, hbz.size, fun k hk _ => hbz.block k hk⟩ (fun r e => by cases e)
          case measure => simp [intOf]; omega
        have q3 : ((k : Int) == wo) = false := beq_eq_false_iff_ne.2 hw
        have HW := Lib.hid hw
        clear hw
        by_cases ht : to = u
        rotate_left
        · have q4 : ((to : Int) != (u : Int)) = true := by rw [bne_iff_ne]; omega
          rw [if_pos (Or.inr (Or.inl ⟨HQ.out, ht⟩))] at HO
          have HT := Lib.hid ht
          clear ht
          gi_wp2
          refine ⟨trivial, ?_⟩
          gi_wp2
          go_roundw
          case rel =>
            have hbz := hB.out
            refine ⟨k + 1, by omega, by go_num, ?_, HIT2.out.later hbz⟩
            rw [HS.out, HO.out]
            simp only [Option.toList_none, List.append_nil]
            exact hJ _ _ _ none HJ.out ⟨hbz.os, hbz.tape, hbz.output, hbz.size, fun k hk _ => hbz.block k hk⟩ (fun r e => by cases e)
          case measure => simp [intOf]; omega
        have q4 : ((to : Int) != (u : Int)) = false := by rw [ht]; simp
        have HT := Lib.hid ht
        clear ht
        have HC2 := Lib.hid (HC.out _ false hB.out)
        obtain ⟨R, hR⟩ : ∃ R, roomOf l (k, false) = R := ⟨_, rfl⟩
        rw [hR] at HC2 HO
        clear hR HC
        by_cases hR0 : R ≤ 0
        · rw [if_pos (Or.inr (Or.inr hR0))] at HO
          gi_wp2
          refine ⟨trivial, ?_⟩
          refine (callsIn_wide.2 HC2.out).mono ?_
          rintro e w3 ⟨rfl, hb3⟩
          gi_wp2
          go_roundw
          case rel =>
            have hbz := hB.out.trans (hb3.mono hB.out.size)
            refine ⟨k + 1, by omega, by go_num, ?_, HIT2.out.later hbz⟩
            rw [HS.out, HO.out]
            simp only [Option.toList_none, List.append_nil]
            exact hJ _ _ _ none HJ.out ⟨hbz.os, hbz.tape, hbz.output, hbz.size, fun k hk _ => hbz.block k hk⟩ (fun r e => by cases e)
          case measure => simp [intOf]; omega
        · rw [if_neg (by intro hor; rcases hor with h | h | h; exact HW.out h; exact h.2 HT.out; exact hR0 h)] at HO
          gi_wp2
          refine ⟨trivial, ?_⟩
          refine (callsIn_wide.2 HC2.out).mono ?_
          rintro e w3 ⟨rfl, hb3⟩
          have hbz := Lib.hid (hB.out.trans (hb3.mono hB.out.size))
          have hJ3 : J (stepsTo l u wo k) w3 := hJ _ _ _ none HJ.out ⟨hbz.out.os, hbz.out.tape, hbz.out.output, hbz.out.size, fun k hk _ => hbz.out.block k hk⟩ (fun r e => by cases e)
          obtain ⟨fn, tmps, assign, body, hy, hRR⟩ := HY.out ((k, false), fr) _ (HPX.out.subset (by rw [HS.out, HO.out]; simp)) hJ3
          dsimp only [encSt] at hy
          have hbx := (Box.newAt (wr.alloc (.cells #[.int .i64 lo, .int .i64 hi', .int .i64 fr, .int .i64 to, .int .i64 fl] 106)) #[.int .i64 k, .bool false] 129 (by simp : _ = wr.heap.size + 1)).later hb3
          have x0 := hbx.cell 0
          have x1 := hbx.cell 1
          have x2 := hbx.lt
          simp only [List.getElem?_cons_zero, List.getElem?_cons_succ] at x0 x1
          have HJ3 := Lib.hid hJ3
          clear hJ3
          gi_wp2
          refine hRR.mono ?_
          rintro e W3 (⟨rfl, hJ4, hk4⟩ | ⟨rfl, hJx4⟩)
          · gi_wp2
            go_roundw
            case rel =>
              refine ⟨k + 1, by omega, by go_num, ?_, hk4.it (HIT2.out.later hbz.out)⟩
              rw [HS.out, HO.out]
              exact hJ4
            case measure => simp [intOf]; omega
          · gi_wp2
            refine bodyPost_ret (results_none rfl _ _ _) rfl ?_
            refine ⟨⟨_, rfl⟩, .inr ⟨_, ?_, hJx4⟩⟩
            have h := HPX.out
            rw [HS.out, HO.out] at h
            exact h
    · obtain rfl : l.length = k := by omega
      gi_wp2
      go_end0
      exact ⟨⟨_, rfl⟩, .inl ⟨_, rfl, hJk⟩⟩

/-- What is known of a step that comes. -/
structure GoodSt (l : List Ac) (u : Nat) (wo : Int) (x : St × Nat) : Prop where
  lt : x.1.1 < l.length
  ne : (x.1.1 : Int) ≠ wo
  hd : headOf l x.1 = x.2
  tl : tailOf l x.1 = u
  rm : 0 < roomOf l x.1
theorem stepsTo_good {l : List Ac} {u : Nat} {wo : Int} {k : Nat} {x : St × Nat} (h : x ∈ stepsTo l u wo k) : GoodSt l u wo x := by
  obtain ⟨i, hi, e⟩ := List.mem_filterMap.1 h
  unfold stepAt at e
  cases ha : l[i]? with
  | none => rw [ha] at e; cases e
  | some a =>
    rw [ha] at e
    dsimp only at e
    split at e
    · cases e
    · rename_i hn
      have hn1 : ¬ (i : Int) = wo := fun h => hn (.inl h)
      have hn2 : ¬ (a.fr ≠ u ∧ a.to ≠ u) := fun h => hn (.inr (.inl h))
      have hn3 : ¬ roomOf l (i, decide (a.fr = u)) ≤ 0 := fun h => hn (.inr (.inr h))
      cases e
      refine ⟨(List.getElem?_eq_some_iff.1 ha).1, hn1, ?_, ?_, Int.not_le.1 hn3⟩
      · unfold headOf; rw [ha]
      · unfold tailOf; rw [ha]
        by_cases q : a.fr = u
        · simp [q]
        · have : a.to = u := Decidable.byContradiction fun h => hn2 ⟨q, h⟩
          simp [q, this]
/-- A set from whose node all steps lead into it is closed there. -/
theorem stepsTo_mem {l : List Ac} {u : Nat} {wo : Int} {j : Nat} (hj : j < l.length) (hw : (j : Int) ≠ wo) :
    (l[j].fr = u → l[j].fl < l[j].hi → ((j, true), l[j].to) ∈ stepsTo l u wo l.length) ∧ (l[j].to = u → l[j].fr ≠ u → l[j].lo < l[j].fl → ((j, false), l[j].fr) ∈ stepsTo l u wo l.length) := by
  have hr : roomOf l (j, true) = l[j].hi - l[j].fl ∧ roomOf l (j, false) = l[j].fl - l[j].lo := by
    unfold roomOf; simp [List.getElem?_eq_getElem hj]
  constructor
  · intro h1 h2
    refine List.mem_filterMap.2 ⟨j, by simpa using hj, ?_⟩
    unfold stepAt
    rw [List.getElem?_eq_getElem hj]
    dsimp only
    rw [decide_eq_true h1, if_neg ?_]
    · simp
    · rintro (h | h | h)
      · exact hw h
      · exact h.1 h1
      · rw [hr.1] at h; omega
  · intro h1 h0 h2
    refine List.mem_filterMap.2 ⟨j, by simpa using hj, ?_⟩
    unfold stepAt
    rw [List.getElem?_eq_getElem hj]
    dsimp only
    rw [decide_eq_false h0, if_neg ?_]
    · simp
    · rintro (h | h | h)
      · exact hw h
      · exact h.2 h1
      · rw [hr.2] at h; omega

/-- A step that comes. -/
abbrev Sty (l : List Ac) (u : Nat) (wo : Int) := { x : St × Nat // GoodSt l u wo x }
theorem steps_stops (n : Nat) (hn : 2 ≤ n) (p B nb : Nat) (v : Value) (l : List Ac) (u : Nat) (wo : Int) (hl : l.length ≤ 1000) (hs : Small l 1000000000000) (w : World) (hit : ItR w p B nb v l u wo) :
    SeqStopsK Fence.wide n Try.prog 99 #[.pointer (some ⟨p, 0, none⟩), .pointer (some ⟨p + 1, 0, none⟩), .pointer (some ⟨p + 1 + 1, 0, none⟩)] (fun x : Sty l u wo => encSt x.1) (KpS p B nb v l u wo)
      (fun ys => ys.map Subtype.val = stepsTo l u wo l.length) (fun _ => True) 1000 w := fun lp J Jx W hW hJ hJx hY h0 => by
  refine (steps99 n hn p B nb v l u wo hl hs lp (fun xs W => ∃ pre : List (Sty l u wo), pre.map Subtype.val = xs ∧ J pre W) (fun xs W => ∃ pre : List (Sty l u wo), pre.map Subtype.val = xs ∧ Jx pre W) W (hit.later hW)
    (fun s A B' row ⟨pre, h1, h2⟩ hg hr => ⟨pre, h1, hJ _ _ _ _ h2 hg hr⟩) ?_ ⟨[], rfl, h0⟩).mono ?_
  · rintro _ x W1 hx ⟨pre, rfl, hp⟩ hlen
    obtain ⟨fn, tmps, assign, body, hy, hR⟩ := hY pre ⟨x, stepsTo_good hx⟩ W1 hp (by simpa using hlen)
    refine ⟨fn, tmps, assign, body, hy, hR.mono ?_⟩
    rintro e W' (⟨rfl, h1, h2⟩ | ⟨rfl, h1⟩)
    · exact .inl ⟨rfl, ⟨_, by simp, h1⟩, h2⟩
    · exact .inr ⟨rfl, _, by simp, h1⟩
  · rintro e W' ⟨hv, (⟨xs, hS, pre, hp, hj⟩ | ⟨_, _, pre, _, hj⟩)⟩
    · exact ⟨hv, .inl ⟨pre, hp.trans hS, hj⟩⟩
    · exact ⟨hv, .inr ⟨pre, trivial, hj⟩⟩
end Go.Proofs.Ytlakcghdehdeiaa

/- Breadth first: what a search of a network knows, plainly; the way that it finds; what it leaves closed. -/
namespace Go.Proofs.Ytlakcghdehdeiaa
open Go Go.Proofs Go.RowKit

/-- The search from u: the nodes reached, in their order, and by which step and from which node each was reached. -/
structure Bfs (l : List Ac) (wo : Int) (u : Nat) (rc : List Bool) (byL : List St) (bkL ord : List Nat) : Prop where
  n1 : rc.length = 36
  n2 : byL.length = 36
  n3 : bkL.length = 36
  hd : u ∈ ord
  nd : ord.Nodup
  lt : ∀ x ∈ ord, x < 36
  mem : ∀ x, x < 36 → (rc.getD x false = true ↔ x ∈ ord)
  tree : ∀ x ∈ ord, x ≠ u → ∃ s k, byL[x]? = some s ∧ bkL[x]? = some k ∧ k ∈ ord ∧ ord.idxOf k < ord.idxOf x ∧ GoodSt l k wo (s, x)

theorem idxOf_old (ord : List Nat) (y x : Nat) (h : x ∈ ord) : (ord ++ [y]).idxOf x = ord.idxOf x := by
  rw [List.idxOf_append, if_pos h]
theorem idxOf_new (ord : List Nat) (y : Nat) (h : y ∉ ord) : (ord ++ [y]).idxOf y = ord.length := by
  rw [List.idxOf_append, if_neg h]; simp

theorem Bfs.start (l : List Ac) (wo : Int) (u : Nat) (hu : u < 36) (byL : List St) (bkL : List Nat) (h2 : byL.length = 36) (h3 : bkL.length = 36) : Bfs l wo u ((List.replicate 36 false).set u true) byL bkL [u] :=
  ⟨by simp, h2, h3, by simp, by simp, by simpa using hu, fun x hx => by
    simp only [List.getD_eq_getElem?_getD, List.getElem?_set, List.length_replicate, List.mem_singleton, List.getElem?_replicate]
    by_cases h : u = x
    · subst h; simp [hu]
    · rw [if_neg h, if_pos hx]; simp [Ne.symm h], fun x hx hne => absurd (by simpa using hx) hne⟩

theorem Bfs.visit {l : List Ac} {wo : Int} {u : Nat} {rc : List Bool} {byL : List St} {bkL ord : List Nat} (h : Bfs l wo u rc byL bkL ord) {k x : Nat} {s : St} (hk : k ∈ ord) (hx : x < 36) (hn : x ∉ ord) (hg : GoodSt l k wo (s, x)) :
    Bfs l wo u (rc.set x true) (byL.set x s) (bkL.set x k) (ord ++ [x]) := by
  refine ⟨by simp [h.n1], by simp [h.n2], by simp [h.n3], by simp [h.hd], ?_, ?_, ?_, ?_⟩
  · rw [List.nodup_append]
    exact ⟨h.nd, by simp, fun a ha b hb e => by simp at hb; subst hb; subst e; exact hn ha⟩
  · intro y hy
    rcases List.mem_append.1 hy with hy | hy
    · exact h.lt y hy
    · simp at hy; omega
  · intro y hy
    by_cases e : x = y
    · subst e; simp [List.getD_eq_getElem?_getD, h.n1, hx]
    · have := h.mem y hy
      simp only [List.getD_eq_getElem?_getD, List.getElem?_set, if_neg e] at this ⊢
      rw [this]; simp [Ne.symm e]
  · intro y hy hne
    rcases List.mem_append.1 hy with hy | hy
    · obtain ⟨s', k', h1, h2, h3, h4, h5⟩ := h.tree y hy hne
      have e : x ≠ y := fun e => hn (e ▸ hy)
      exact ⟨s', k', by rw [List.getElem?_set, if_neg e]; exact h1, by rw [List.getElem?_set, if_neg e]; exact h2, List.mem_append_left _ h3, by rw [idxOf_old _ _ _ h3, idxOf_old _ _ _ hy]; exact h4, h5⟩
    · simp at hy; subst hy
      exact ⟨s, k, by simp [h.n2, hx], by simp [h.n3, hx], List.mem_append_left _ hk, by rw [idxOf_old _ _ _ hk, idxOf_new _ _ hn]; exact List.idxOf_lt_length_of_mem hk, hg⟩

theorem Bfs.count {l : List Ac} {wo : Int} {u : Nat} {rc : List Bool} {byL : List St} {bkL ord : List Nat} (h : Bfs l wo u rc byL bkL ord) : ord.length ≤ 36 := by
  have h1 : ord.length ≤ (List.range 36).length := h.nd.length_le_of_subset fun x hx => List.mem_range.2 (h.lt x hx)
  simpa using h1

/-- The way back from a node to u, as the two arrays tell it. -/
def Trace (byL : List St) (bkL : List Nat) (u : Nat) : Nat → List St → Prop
  | v, [] => v = u
  | v, s :: p => v ≠ u ∧ v < 36 ∧ byL[v]? = some s ∧ ∃ k, bkL[v]? = some k ∧ Trace byL bkL u k p

theorem Bfs.way {l : List Ac} {wo : Int} {u : Nat} {rc : List Bool} {byL : List St} {bkL ord : List Nat} (h : Bfs l wo u rc byL bkL ord) :
    ∀ (n v : Nat), v ∈ ord → ord.idxOf v < n → ∃ p, Trace byL bkL u v p ∧ Wy l wo v p u ∧ (∀ s ∈ p, ord.idxOf (tailOf l s) < ord.idxOf (headOf l s)) ∧ (∀ s ∈ p, 0 < roomOf l s) ∧ p.length < n
  | 0, v, _, h0 => by omega
  | n + 1, v, hv, hn => by
    by_cases e : v = u
    · exact ⟨[], e, e, by simp, by simp, by simp⟩
    · obtain ⟨s, k, h1, h2, h3, h4, h5⟩ := h.tree v hv e
      obtain ⟨p, p1, p2, p3, p4, p5⟩ := Bfs.way h n k h3 (by omega)
      refine ⟨s :: p, ⟨e, h.lt v hv, h1, k, h2, p1⟩, ⟨h5.lt, h5.ne, h5.hd, by rw [h5.tl]; exact p2⟩, ?_, ?_, by simpa using p5⟩
      · intro t ht
        rcases List.mem_cons.1 ht with rfl | ht
        · rw [h5.tl, h5.hd]; exact h4
        · exact p3 t ht
      · intro t ht
        rcases List.mem_cons.1 ht with rfl | ht
        · exact h5.rm
        · exact p4 t ht

theorem Bfs.way' {l : List Ac} {wo : Int} {u t : Nat} {rc : List Bool} {byL : List St} {bkL ord : List Nat} (h : Bfs l wo u rc byL bkL ord) (ht : t ∈ ord) :
    ∃ p, Trace byL bkL u t p ∧ Wy l wo t p u ∧ (p.map Prod.fst).Nodup ∧ (∀ s ∈ p, 0 < roomOf l s) ∧ p.length < 36 := by
  have hc := h.count
  obtain ⟨p, p1, p2, p3, p4, p5⟩ := h.way (ord.idxOf t + 1) t ht (by omega)
  have := List.idxOf_lt_length_of_mem ht
  exact ⟨p, p1, p2, (Wy.nodup (rk := fun x => ord.idxOf x) p2 p3).1, p4, by omega⟩

/-- Where all that leads out of the nodes reached has been looked at, they are closed. -/
theorem Bfs.closed {l : List Ac} {wo : Int} {u : Nat} {rc : List Bool} {byL : List St} {bkL ord : List Nat} (h : Bfs l wo u rc byL bkL ord) (hE : Ends 36 l) (hc : ∀ a ∈ ord, ∀ y ∈ stepsTo l a wo l.length, y.2 ∈ ord) :
    Closed (fun x => rc.getD x false) wo l := by
  intro j hj hw
  obtain ⟨e1, e2⟩ := hE l[j] (List.getElem_mem hj)
  have m1 := h.mem _ e1
  have m2 := h.mem _ e2
  constructor
  · intro h1 h2
    refine Int.not_lt.1 fun hlt => ?_
    have := hc _ (m1.1 h1) _ ((stepsTo_mem hj hw).1 rfl hlt)
    have h2' : rc.getD l[j].to false = false := h2
    rw [m2.2 this] at h2'; cases h2'
  · intro h1 h2
    refine Int.not_lt.1 fun hlt => ?_
    have hne : l[j].fr ≠ l[j].to := fun e => by
      have h2' : rc.getD l[j].fr false = false := h2
      rw [e, show rc.getD l[j].to false = true from h1] at h2'; cases h2'
    have := hc _ (m2.1 h1) _ ((stepsTo_mem hj hw).2 rfl hne hlt)
    have h2' : rc.getD l[j].fr false = false := h2
    rw [m1.2 this] at h2'; cases h2'

/-- The least room along a way, at most m. -/
def least (l : List Ac) : List St → Int → Int
  | [], m => m
  | s :: p, m => least l p (min m (roomOf l s))
theorem least_le (l : List Ac) : ∀ (p : List St) (m : Int), least l p m ≤ m
  | [], m => Int.le_refl _
  | s :: p, m => by have := least_le l p (min m (roomOf l s)); simp only [least]; omega
theorem least_room (l : List Ac) : ∀ (p : List St) (m : Int), ∀ s ∈ p, least l p m ≤ roomOf l s
  | s :: p, m, t, ht => by
    rcases List.mem_cons.1 ht with rfl | ht
    · have := least_le l p (min m (roomOf l t)); simp only [least]; omega
    · exact least_room l p _ t ht
theorem least_pos (l : List Ac) : ∀ (p : List St) (m : Int), 0 < m → (∀ s ∈ p, 0 < roomOf l s) → 0 < least l p m
  | [], m, h, _ => h
  | s :: p, m, h, hp => by
    have h1 := hp s (by simp)
    exact least_pos l p _ (by omega) fun t ht => hp t (by simp [ht])

theorem GoodSt.ends {l : List Ac} {u : Nat} {wo : Int} {x : St × Nat} (h : GoodSt l u wo x) (hE : Ends 36 l) : x.2 < 36 := by
  have hl := h.lt
  have := h.hd
  unfold headOf at this
  rw [List.getElem?_eq_getElem hl] at this
  obtain ⟨e1, e2⟩ := hE _ (List.getElem_mem hl)
  rw [← this]
  dsimp only
  split <;> assumption
end Go.Proofs.Ytlakcghdehdeiaa

/- A queue of numbers: a slice somewhere in a row of the call's own; its head taken off, one more behind it. What a search keeps in memory. -/
namespace Go.Proofs.Ytlakcghdehdeiaa
open Go Go.Proofs Go.RowKit

/-- Slice v, in a row in block g, reads as the numbers q. -/
def QuR (w : World) (g : Nat) (v : Value) (q : List Nat) : Prop :=
  ∃ off cap cur, v = .slice (some ⟨g, off, none⟩) q.length cap ∧ w.heap[g]? = some (.cells cur 3 (0, 0)) ∧ off + cap ≤ cur.size ∧ q.length ≤ cap ∧ ∀ i (h : i < q.length), cur[off + i]? = some (.int .i64 q[i])
theorem QuR.lt {w : World} {g : Nat} {v : Value} {q : List Nat} (h : QuR w g v q) : g < w.heap.size := by
  obtain ⟨off, cap, cur, _, h2, _⟩ := h
  exact (Array.getElem?_eq_some_iff.1 h2).1
theorem QuR.same {w w' : World} {g : Nat} {v : Value} {q : List Nat} (h : QuR w g v q) (hg : w'.heap[g]? = w.heap[g]?) : QuR w' g v q := by
  obtain ⟨off, cap, cur, h1, h2, h3⟩ := h
  exact ⟨off, cap, cur, h1, hg.trans h2, h3⟩
theorem QuR.later {w w' : World} {g : Nat} {v : Value} {q : List Nat} (h : QuR w g v q) (hb : Below w.heap.size w w') : QuR w' g v q := h.same (hb.block g h.lt)
theorem QuR.other {w : World} {g : Nat} {v : Value} {q : List Nat} (h : QuR w g v q) {a : Addr} (u : Value) (hne : a.block ≠ g) : QuR (w.setCell a u) g v q := h.same (heap_setCell_other w a g u (Ne.symm hne))
theorem QuR.alloc {w : World} {g : Nat} {v : Value} {q : List Nat} (h : QuR w g v q) (o : Obj) : QuR (w.alloc o) g v q := h.same (heap_alloc_old w o h.lt)
theorem QuR.kept {w w' : World} {g : Nat} {v : Value} {q : List Nat} {row : Option Nat} (h : QuR w g v q) (hg : w.grownBy w' row) (hne : some g ≠ row) : QuR w' g v q := h.same (hg.block g h.lt hne)
theorem QuR.lit (w : World) (x : Nat) : QuR (w.alloc (.cells #[.int .i64 x] 3)) w.heap.size (.slice (some ⟨w.heap.size, 0, none⟩) 1 1) [x] :=
  ⟨0, 1, _, rfl, heap_alloc_new w _, by simp, by simp, fun i hi => by obtain rfl : i = 0 := by simpa using hi
                                                                      simp⟩
theorem QuR.form {w : World} {g : Nat} {v : Value} {q : List Nat} (h : QuR w g v q) : ∃ off cap, v = .slice (some ⟨g, off, none⟩) q.length cap ∧ q.length ≤ cap := by
  obtain ⟨off, cap, cur, h1, h2, h3, h4, h5⟩ := h
  exact ⟨off, cap, h1, h4⟩
theorem QuR.head {w : World} {g off cap x n : Nat} {q : List Nat} (h : QuR w g (.slice (some ⟨g, off, none⟩) n cap) (x :: q)) : n = q.length + 1 ∧ q.length + 1 ≤ cap ∧ w.cell? ⟨g, off, none⟩ = some (.int .i64 x) := by
  obtain ⟨off', cap', cur, h1, h2, h3, h4, h5⟩ := h
  simp only [Value.slice.injEq, Option.some.injEq, Addr.mk.injEq, and_true, true_and, List.length_cons] at h1
  obtain ⟨rfl, rfl, rfl⟩ := h1
  refine ⟨rfl, by simpa using h4, ?_⟩
  have := h5 0 (by simp)
  rw [cell_of_row w g off cur 3 (0, 0) h2]
  simpa using this
theorem QuR.tail {w : World} {g off cap x n : Nat} {q : List Nat} (h : QuR w g (.slice (some ⟨g, off, none⟩) n cap) (x :: q)) :
    QuR w g (if cap = 1 then .slice (some ⟨g, off, none⟩) q.length 0 else .slice (some ⟨g, off + 1, none⟩) q.length (cap - 1)) q := by
  obtain ⟨off', cap', cur, h1, h2, h3, h4, h5⟩ := h
  simp only [Value.slice.injEq, Option.some.injEq, Addr.mk.injEq, and_true, true_and, List.length_cons] at h1
  obtain ⟨rfl, rfl, rfl⟩ := h1
  have h4 : q.length + 1 ≤ cap := by simpa using h4
  by_cases hc : cap = 1
  · rw [if_pos hc]
    exact ⟨off, 0, cur, rfl, h2, by omega, by omega, fun i hi => by omega⟩
  · rw [if_neg hc]
    refine ⟨off + 1, cap - 1, cur, rfl, h2, by omega, by omega, fun i hi => ?_⟩
    have := h5 (i + 1) (by simpa using hi)
    rw [show off + 1 + i = off + (i + 1) by omega, this]
    simp

/-- 'append(queue, x)'. -/
theorem run_append_qu {P : Program} (hT : P.underlying 22 = some (.slice 3)) (hI : (P.info? 3).map (fun i => (i.zero, i.size, i.bytes)) = some (some (.int .i64 0), 1, 8))
    (w : World) (g : Nat) (v : Value) (q : List Nat) (x b : Nat) (t' ty : TypeId) (hq : QuR w g v q) (hx : w.heap[b]? = some (.cells #[.int .i64 x] t' (0, 0))) (hn : q.length ≤ 1000000) :
    ∃ v' w' g', (Builtin.append_ #[22, 22] ty #[v, .slice (some ⟨b, 0, none⟩) 1 1]).run P w = .ok v' w' ∧ QuR w' g' v' (q ++ [x]) ∧ w.grownBy w' (some g) ∧ (g' = g ∨ w.heap.size ≤ g') := by
  obtain ⟨i, hi, hz0, hz1, hz2⟩ := info_parts hI
  obtain ⟨off, cap, cur, rfl, h2, h3, h4, h5⟩ := hq
  have hnews : ∀ (j : Nat) (u : Value), [Value.int .i64 x][j]? = some u → w.cell? ((⟨b, 0, none⟩ : Addr).add j) = some u := fun j u hu => by
    rw [Addr.add_lit, Nat.zero_add, cell_of_row w b j _ t' (0, 0) hx]; simpa using hu
  by_cases hr : q.length + 1 ≤ cap
  · have hlt : off + q.length < cur.size := by omega
    have hrun := run_append_room_cells (P := P) w 22 ty 3 i hT hi g off q.length cap ⟨b, 0, none⟩ 1 1 [.int .i64 x] (by rw [hz1]; rfl) hnews (by simp [Value.oneCell']) hr
      (fun j hj => by
        obtain rfl : j = 0 := by simpa using hj
        rw [hz1, Nat.mul_one, Nat.add_zero, cell_of_row w g _ cur 3 (0, 0) h2, Array.getElem?_eq_getElem hlt]; rfl)
      (fun j hj => frozen_of_row w g _ cur 3 h2)
    rw [hz1, Nat.mul_one] at hrun
    refine ⟨_, _, g, hrun, ⟨off, cap, cur.setIfInBounds (off + q.length) (.int .i64 x), by simp, heap_setCell_same w g _ cur 3 _ h2, by simpa using h3, by simpa using hr, fun i hi => ?_⟩, ⟨rfl, rfl, rfl, by show _ ≤ (w.setCell _ _).heap.size; simp [World.setCell], fun k _ hk => heap_setCell_other w _ k _ (fun e => hk (by rw [e]))⟩, .inl rfl⟩
    have hi' : i < q.length + 1 := by simpa using hi
    by_cases e : i = q.length
    · subst e
      simp [hlt]
    · rw [Array.getElem?_setIfInBounds_ne (by omega), h5 i (by omega), List.getElem_append_left (by omega)]
  · obtain ⟨v', w', hrun, r1, r2⟩ := run_append_arg_grows (P := P) w 22 ty 3 i (.int .i64 0) 1 8 hT hi hz0 hz1 hz2 rfl (by decide) ⟨g, off, none⟩ q.length cap (q.map fun n : Nat => .int .i64 (n : Int)) (by simp)
      (fun j u hu => by
        have hj : j < q.length := by have := (List.getElem?_eq_some_iff.1 hu).1; simpa using this
        rw [Addr.add_lit, cell_of_row w g _ cur 3 (0, 0) h2, h5 j hj]
        rw [List.getElem?_map, List.getElem?_eq_getElem hj] at hu
        exact hu) ⟨b, 0, none⟩ 1 1 [.int .i64 x] rfl hnews (by omega) (by simp [maxLen]; omega) (by omega)
    obtain ⟨hl, hv⟩ := r1
    rcases hv with ⟨_, h0⟩ | ⟨g', cap', cur', rfl, hbg, hg, hnc, hcm, hcs, htake⟩
    · omega
    · have hgg : g' < w'.heap.size := (Array.getElem?_eq_some_iff.1 hg).1
      · refine ⟨_, w', g', hrun, ⟨0, cap', cur', by simp, hg, by omega, by simpa using hnc, fun i hi => ?_⟩, ⟨r2.os, r2.tape, r2.output, r2.size, fun k hk _ => r2.block k hk (by simp)⟩, .inr hbg⟩
        have hi' : i < q.length + 1 := by simpa using hi
        have e : (cur'.toList.take ((q.length + 1) * 1))[i]? = (q.map (fun n : Nat => Value.int .i64 (n : Int)) ++ [.int .i64 x])[i]? := by rw [htake]
        rw [List.getElem?_take, if_pos (by omega)] at e
        rw [Nat.zero_add, ← Array.getElem?_toList, e]
        by_cases e2 : i = q.length
        · subst e2; simp
        · rw [List.getElem?_append_left (by simp; omega), List.getElem?_map, List.getElem?_eq_getElem (by omega), List.getElem_append_left (by omega)]; rfl
theorem wpListIn_append_qu {F : Fence} {n : Nat} {P : Program} (hT : P.underlying 22 = some (.slice 3)) (hI : (P.info? 3).map (fun i => (i.zero, i.size, i.bytes)) = some (some (.int .i64 0), 1, 8))
    {w : World} {g : Nat} {v : Value} {q : List Nat} {x b : Nat} {t' : TypeId} (hq : QuR w g v q) (hx : w.heap[b]? = some (.cells #[.int .i64 x] t' (0, 0))) (hn : q.length ≤ 1000000)
    {ops : Array Oper} {rest : List Oper} {o : Oper} {a : Act} {Q : Exit → Act → World → Prop} (hgd : o.guard = none) (s y : Operand)
    (ho : o.op = .call { callee := .builtin .append, args := #[s, y], argTypes := #[22, 22] }) (hs : a.eval s = v) (hy : a.eval y = .slice (some ⟨b, 0, none⟩) 1 1)
    (h : ∀ v' w' g', QuR w' g' v' (q ++ [x]) → w.grownBy w' (some g) → (g' = g ∨ w.heap.size ≤ g') → wpListIn F n P ops Q rest (a.put o.dst v') w') : wpListIn F n P ops Q (o :: rest) a w := by
  refine wpListIn_plain hgd fun K hK' => ?_
  obtain ⟨v', w', g', hrun, r1, r2, r3⟩ := run_append_qu hT hI w g v q x b t' o.type hq hx hn
  unfold Oper.wpIn
  refine ⟨?_, ?_⟩
  · simp [Oper.about, ho, resolve, Target.leads, Sem.run_pure]
  · rw [Oper.semAt_plain F _ _ (by rw [ho]; intro c hc'; cases hc')]
    simp [execOp, ho, resolve, invoke, builtin, hs, hy, hrun, Result.andThen]
    exact hK' _ _ (h v' w' g' r1 r2 r3)

/-- What lay there lies there, but for the blocks in S. -/
structure Kept (S : Nat → Prop) (w w' : World) : Prop where
  os : w'.os = w.os
  tape : w'.tape = w.tape
  output : w'.output = w.output
  size : w.heap.size ≤ w'.heap.size
  block : ∀ k, k < w.heap.size → ¬ S k → w'.heap[k]? = w.heap[k]?
theorem Kept.refl (S : Nat → Prop) (w : World) : Kept S w w := ⟨rfl, rfl, rfl, Nat.le_refl _, fun _ _ _ => rfl⟩
theorem Kept.trans {S : Nat → Prop} {a b c : World} (h : Kept S a b) (k : Kept S b c) : Kept S a c :=
  ⟨k.os.trans h.os, k.tape.trans h.tape, k.output.trans h.output, Nat.le_trans h.size k.size, fun i hi hn => (k.block i (Nat.lt_of_lt_of_le hi h.size) hn).trans (h.block i hi hn)⟩
theorem Kept.grown {S : Nat → Prop} {w a b : World} {row : Option Nat} (h : Kept S w a) (hg : a.grownBy b row) (hr : ∀ k, row = some k → S k ∨ w.heap.size ≤ k) : Kept S w b :=
  ⟨hg.os.trans h.os, hg.tape.trans h.tape, hg.output.trans h.output, Nat.le_trans h.size hg.size, fun i hi hn => (hg.block i (Nat.lt_of_lt_of_le hi h.size) (fun e => by
    rcases hr i e.symm with h1 | h1
    · exact hn h1
    · omega)).trans (h.block i hi hn)⟩
theorem Kept.alloc {S : Nat → Prop} {w a : World} (h : Kept S w a) (o : Obj) : Kept S w (a.alloc o) := h.grown (World.grownBy_alloc a o none) (fun k e => by cases e)
theorem Kept.below {S : Nat → Prop} {w a b : World} (h : Kept S w a) (hb : Below a.heap.size a b) : Kept S w b :=
  h.grown (row := none) ⟨hb.os, hb.tape, hb.output, hb.size, fun k hk _ => hb.block k hk⟩ (fun k e => by cases e)
theorem grownBy_set (w : World) (a : Addr) (u : Value) : w.grownBy (w.setCell a u) (some a.block) :=
  ⟨rfl, rfl, rfl, by simp [World.setCell], fun k _ hk => heap_setCell_other w a k u (fun e => hk (by rw [e]))⟩
theorem Kept.set {S : Nat → Prop} {w a : World} (h : Kept S w a) {p : Addr} (u : Value) (hp : S p.block ∨ w.heap.size ≤ p.block) : Kept S w (a.setCell p u) :=
  h.grown (grownBy_set a p u) (fun k e => by cases e; exact hp)
theorem Kept.drew {S : Nat → Prop} {w a : World} (h : Kept S w a) : Kept S w a.drew := ⟨h.os, h.tape, h.output, h.size, h.block⟩
theorem Kept.toBelow {S : Nat → Prop} {w a : World} {B : Nat} (h : Kept S w a) (hB : B ≤ w.heap.size) (hS : ∀ k, S k → B ≤ k) : Below B w a :=
  ⟨h.os, h.tape, h.output, h.size, fun k hk => h.block k (by omega) (fun hs => by have := hS k hs; omega)⟩
theorem Kept.mono {S S' : Nat → Prop} {w a : World} (h : Kept S w a) (hS : ∀ k, S k → S' k) : Kept S' w a := ⟨h.os, h.tape, h.output, h.size, fun k hk hn => h.block k hk (fun hs => hn (hS k hs))⟩

def encS (s : St) : List Value := [.int .i64 s.1, .bool s.2]
theorem encS_len (s : St) : (encS s).length = 2 := rfl
/-- What a search keeps in memory, W the world when it began: the record, its own boxes (from N on), the queue. -/
structure BfsW (w wr : World) (N B nb : Nat) (v : Value) (l : List Ac) (tk pl t : Nat) (rc : List Bool) (byC bkC : List Value) (vq : Value) (g : Nat) (qu : List Nat) : Prop where
  net : NetR wr B nb v l tk pl rc
  glt : ∀ k, v.ownBlock = some k → k < N
  nlt : nb < N
  hN : N = w.heap.size
  b5 : Box wr N 90 [.pointer (some ⟨nb, 0, none⟩)]
  b7 : Box wr (N + 1) 3 [.int .i64 t]
  byB : Box wr (N + 1 + 1) 130 byC
  bkB : Box wr (N + 1 + 1 + 1) 120 bkC
  bq : Box wr (N + 1 + 1 + 1 + 1 + 1) 22 [vq]
  q : QuR wr g vq qu
  gge : N + 1 + 1 + 1 + 1 ≤ g
  gne : g ≠ N + 1 + 1 + 1 + 1 + 1
  kept : Kept (fun k => k = nb) w wr

theorem Box.grown {w w' : World} {b : Nat} {e : TypeId} {vs : List Value} {row : Option Nat} (h : Box w b e vs) (hg : w.grownBy w' row) (hne : some b ≠ row) : Box w' b e vs := h.kept hg hne
theorem BfsW.step {w wr wr' : World} {N B nb : Nat} {v : Value} {l : List Ac} {tk pl t : Nat} {rc : List Bool} {byC bkC : List Value} {vq : Value} {g : Nat} {qu : List Nat} {row : Option Nat}
    (h : BfsW w wr N B nb v l tk pl t rc byC bkC vq g qu) (hg : wr.grownBy wr' row) (hr : ∀ k, row = some k → k ≠ nb ∧ v.ownBlock ≠ some k ∧ k ≠ N ∧ k ≠ N + 1 ∧ k ≠ N + 1 + 1 ∧ k ≠ N + 1 + 1 + 1 ∧ k ≠ N + 1 + 1 + 1 + 1 + 1 ∧ k ≠ g ∧ w.heap.size ≤ k) :
    BfsW w wr' N B nb v l tk pl t rc byC bkC vq g qu := by
  have hn : ∀ b, (∀ k, row = some k → k ≠ b) → some b ≠ row := fun b hb e => hb b e.symm rfl
  exact ⟨⟨h.net.box.grown hg (hn _ fun k e => (hr k e).1), h.net.own.kept hg (by
      cases hv : v.ownBlock with
      | none => exact .inl rfl
      | some b => exact .inr (fun e => (hr b e.symm).2.1 hv)), h.net.ne, h.net.n36⟩, h.glt, h.nlt, h.hN, h.b5.grown hg (hn _ fun k e => (hr k e).2.2.1), h.b7.grown hg (hn _ fun k e => (hr k e).2.2.2.1), h.byB.grown hg (hn _ fun k e => (hr k e).2.2.2.2.1),
    h.bkB.grown hg (hn _ fun k e => (hr k e).2.2.2.2.2.1), h.bq.grown hg (hn _ fun k e => (hr k e).2.2.2.2.2.2.1), h.q.kept hg (hn _ fun k e => (hr k e).2.2.2.2.2.2.2.1), h.gge, h.gne,
    h.kept.grown hg (fun k e => .inr (hr k e).2.2.2.2.2.2.2.2)⟩

section
variable {w wr : World} {N B nb : Nat} {v : Value} {l : List Ac} {tk pl t : Nat} {rc : List Bool} {byC bkC : List Value} {vq : Value} {g : Nat} {qu : List Nat}
theorem BfsW.alloc (h : BfsW w wr N B nb v l tk pl t rc byC bkC vq g qu) (o : Obj) : BfsW w (wr.alloc o) N B nb v l tk pl t rc byC bkC vq g qu :=
  h.step (World.grownBy_alloc wr o none) (fun k e => by cases e)
theorem BfsW.drew (h : BfsW w wr N B nb v l tk pl t rc byC bkC vq g qu) : BfsW w wr.drew N B nb v l tk pl t rc byC bkC vq g qu :=
  h.step (row := none) ⟨rfl, rfl, rfl, Nat.le_refl _, fun _ _ _ => rfl⟩ (fun k e => by cases e)
theorem BfsW.later {wr' : World} (h : BfsW w wr N B nb v l tk pl t rc byC bkC vq g qu) (hb : Below wr.heap.size wr wr') : BfsW w wr' N B nb v l tk pl t rc byC bkC vq g qu :=
  h.step (row := none) ⟨hb.os, hb.tape, hb.output, hb.size, fun k hk _ => hb.block k hk⟩ (fun k e => by cases e)
theorem BfsW.vne (h : BfsW w wr N B nb v l tk pl t rc byC bkC vq g qu) {k : Nat} (hk : N ≤ k) : v.ownBlock ≠ some k := fun e => by have := h.glt k e; omega
theorem BfsW.setRc (h : BfsW w wr N B nb v l tk pl t rc byC bkC vq g qu) {x o : Nat} (ho : o = 3 + x) : BfsW w (wr.setCell ⟨nb, o, none⟩ (.bool true)) N B nb v l tk pl t (rc.set x true) byC bkC vq g qu := by
  subst ho
  have hn := h.nlt
  refine ⟨⟨?_, h.net.own.other _ h.net.ne, h.net.ne, by simpa using h.net.n36⟩, h.glt, h.nlt, h.hN, h.b5.other _ (by dsimp only; omega), h.b7.other _ (by dsimp only; omega), h.byB.other _ (by dsimp only; omega), h.bkB.other _ (by dsimp only; omega), h.bq.other _ (by dsimp only; omega),
    h.q.other _ (by have := h.gge; dsimp only; omega), h.gge, h.gne, h.kept.set _ (.inl rfl)⟩
  have := h.net.box.set (3 + x) (.bool true)
  rw [show (netCells v tk pl rc).set (3 + x) (.bool true) = netCells v tk pl (rc.set x true) by
    rw [show 3 + x = x + 1 + 1 + 1 by omega]; simp [netCells, List.map_set]] at this
  exact this
theorem BfsW.setBy (h : BfsW w wr N B nb v l tk pl t rc byC bkC vq g qu) (o : Nat) (u : Value) : BfsW w (wr.setCell ⟨N + 1 + 1, o, none⟩ u) N B nb v l tk pl t rc (byC.set o u) bkC vq g qu := by
  have hn := h.nlt
  have h0 := h.hN
  exact ⟨⟨h.net.box.other _ (by dsimp only; omega), h.net.own.other _ (h.vne (by dsimp only; omega)), h.net.ne, h.net.n36⟩, h.glt, h.nlt, h.hN, h.b5.other _ (by dsimp only; omega), h.b7.other _ (by dsimp only; omega), h.byB.set _ _, h.bkB.other _ (by dsimp only; omega), h.bq.other _ (by dsimp only; omega),
    h.q.other _ (by have := h.gge; dsimp only; omega), h.gge, h.gne, h.kept.set _ (.inr (by dsimp only; omega))⟩
theorem BfsW.setBk (h : BfsW w wr N B nb v l tk pl t rc byC bkC vq g qu) (o : Nat) (u : Value) : BfsW w (wr.setCell ⟨N + 1 + 1 + 1, o, none⟩ u) N B nb v l tk pl t rc byC (bkC.set o u) vq g qu := by
  have hn := h.nlt
  have h0 := h.hN
  exact ⟨⟨h.net.box.other _ (by dsimp only; omega), h.net.own.other _ (h.vne (by dsimp only; omega)), h.net.ne, h.net.n36⟩, h.glt, h.nlt, h.hN, h.b5.other _ (by dsimp only; omega), h.b7.other _ (by dsimp only; omega), h.byB.other _ (by dsimp only; omega), h.bkB.set _ _, h.bq.other _ (by dsimp only; omega),
    h.q.other _ (by have := h.gge; dsimp only; omega), h.gge, h.gne, h.kept.set _ (.inr (by dsimp only; omega))⟩
/-- Another queue. -/
theorem BfsW.setQ (h : BfsW w wr N B nb v l tk pl t rc byC bkC vq g qu) {vq' : Value} {qu' : List Nat} (hq : QuR wr g vq' qu') : BfsW w (wr.setCell ⟨N + 1 + 1 + 1 + 1 + 1, 0, none⟩ vq') N B nb v l tk pl t rc byC bkC vq' g qu' := by
  have hn := h.nlt
  have h0 := h.hN
  exact ⟨⟨h.net.box.other _ (by dsimp only; omega), h.net.own.other _ (h.vne (by dsimp only; omega)), h.net.ne, h.net.n36⟩, h.glt, h.nlt, h.hN, h.b5.other _ (by dsimp only; omega), h.b7.other _ (by dsimp only; omega), h.byB.other _ (by dsimp only; omega), h.bkB.other _ (by dsimp only; omega), h.bq.set 0 _,
    hq.other _ (by have := h.gne; dsimp only; omega), h.gge, h.gne, h.kept.set _ (.inr (by dsimp only; omega))⟩
/-- The queue has grown, perhaps into another row. -/
theorem BfsW.grow (h : BfsW w wr N B nb v l tk pl t rc byC bkC vq g qu) {wr' : World} {vq' : Value} {g' : Nat} {qu' : List Nat} (hq : QuR wr' g' vq' qu') (hg : wr.grownBy wr' (some g)) (hg' : g' = g ∨ wr.heap.size ≤ g') :
    BfsW w (wr'.setCell ⟨N + 1 + 1 + 1 + 1 + 1, 0, none⟩ vq') N B nb v l tk pl t rc byC bkC vq' g' qu' := by
  have hn := h.nlt
  have h0 := h.hN
  have h1 := h.gge
  have h2 := h.gne
  have h3 := h.bq.lt
  have hne : ∀ b, b ≠ g → some b ≠ some g := fun b hb e => hb (Option.some.inj e)
  exact ⟨⟨(h.net.box.grown hg (hne _ (by omega))).other _ (by dsimp only; omega), (h.net.own.kept hg (.inr (h.vne (by omega)))).other _ (h.vne (by dsimp only; omega)), h.net.ne, h.net.n36⟩, h.glt, h.nlt, h.hN,
    (h.b5.grown hg (hne _ (by omega))).other _ (by dsimp only; omega), (h.b7.grown hg (hne _ (by omega))).other _ (by dsimp only; omega), (h.byB.grown hg (hne _ (by omega))).other _ (by dsimp only; omega), (h.bkB.grown hg (hne _ (by omega))).other _ (by dsimp only; omega), (h.bq.grown hg (hne _ (by omega))).set 0 _,
    hq.other _ (by dsimp only; omega), by omega, by omega, (h.kept.grown hg (fun k e => by cases e; right; omega)).set _ (.inr (by dsimp only; omega))⟩
end
end Go.Proofs.Ytlakcghdehdeiaa

/- What a search keeps in memory, at its start. -/
namespace Go.Proofs.Ytlakcghdehdeiaa
open Go Go.Proofs Go.RowKit

def wrote : List Value → Nat → List Value → List Value
  | vs, _, [] => vs
  | vs, o, u :: us => wrote (vs.set o u) (o + 1) us
theorem wrote_len (us : List Value) : ∀ (o : Nat) (vs : List Value), (wrote vs o us).length = vs.length := by
  induction us with
  | nil => intro o vs; rfl
  | cons u us ih => intro o vs; rw [wrote, ih]; simp
theorem wrote_get (us : List Value) : ∀ (o : Nat) (vs : List Value) (i : Nat), (wrote vs o us)[i]? = if o ≤ i ∧ i < o + us.length ∧ i < vs.length then us[i - o]? else vs[i]? := by
  induction us with
  | nil => intro o vs i; rw [if_neg (by simp; omega)]; rfl
  | cons u us ih =>
    intro o vs i
    rw [wrote, ih]
    simp only [List.length_set, List.length_cons]
    by_cases h : o + 1 ≤ i ∧ i < o + 1 + us.length ∧ i < vs.length
    · rw [if_pos h, if_pos (by omega), show i - o = (i - (o + 1)) + 1 by omega, List.getElem?_cons_succ]
    · rw [if_neg h]
      by_cases e : o = i
      · subst e
        by_cases h2 : o < vs.length
        · rw [if_pos (by omega)]; simp [h2]
        · rw [if_neg (by omega), List.getElem?_set]; simp [h2]
      · rw [if_neg (by omega), List.getElem?_set, if_neg e]
theorem Box.setCells {b : Nat} {e : TypeId} (us : List Value) : ∀ {w : World} {vs : List Value} (o : Nat), Box w b e vs → Box (w.setCells b o us) b e (wrote vs o us) := by
  induction us with
  | nil => intro w vs o h; exact h
  | cons u us ih => intro w vs o h; exact ih (o + 1) (h.set o u)
theorem grownBy_setCells (b : Nat) (us : List Value) : ∀ (w : World) (o : Nat), w.grownBy (w.setCells b o us) (some b) := by
  induction us with
  | nil => intro w o; exact ⟨rfl, rfl, rfl, Nat.le_refl _, fun _ _ _ => rfl⟩
  | cons u us ih =>
    intro w o
    have h1 := grownBy_set w ⟨b, o, none⟩ u
    have h2 := ih (w.setCell ⟨b, o, none⟩ u) (o + 1)
    exact ⟨h2.os.trans h1.os, h2.tape.trans h1.tape, h2.output.trans h1.output, Nat.le_trans h1.size h2.size, fun k hk hn => (h2.block k (Nat.lt_of_lt_of_le hk h1.size) hn).trans (h1.block k hk hn)⟩
theorem setCells_size (b : Nat) (us : List Value) : ∀ (w : World) (o : Nat), (w.setCells b o us).heap.size = w.heap.size := by
  induction us with
  | nil => intro w o; rfl
  | cons u us ih => intro w o; rw [World.setCells, ih]; simp [World.setCell]
theorem net_blank (v : Value) (tk pl : Nat) (rc : List Bool) (h : rc.length = 36) : wrote (netCells v tk pl rc) 3 (List.replicate 36 (.bool false)) = netCells v tk pl (List.replicate 36 false) := by
  apply List.ext_getElem?
  intro i
  rw [wrote_get]
  have hl : (netCells v tk pl rc).length = 39 := by simp [netCells, h]
  rw [hl, List.length_replicate]
  by_cases hi : 3 ≤ i ∧ i < 3 + 36 ∧ i < 39
  · obtain ⟨j, rfl⟩ : ∃ j, i = j + 1 + 1 + 1 := ⟨i - 3, by omega⟩
    rw [if_pos hi]
    simp only [netCells, List.getElem?_cons_succ, List.getElem?_map, List.getElem?_replicate]
    rw [if_pos (by omega), if_pos (by omega)]; rfl
  · rw [if_neg hi]
    by_cases h3 : i < 3
    · match i, h3 with
      | 0, _ => rfl
      | 1, _ => rfl
      | 2, _ => rfl
    · rw [List.getElem?_eq_none (by omega), List.getElem?_eq_none (by simp [netCells]; omega)]

theorem start_facts (w : World) (B nb : Nat) (v : Value) (l : List Ac) (tk pl : Nat) (rc : List Bool) (hnet : NetR w B nb v l tk pl rc) (t : Nat) (W1 : World)
    (hW : ((w.alloc (.cells #[.pointer (some ⟨nb, 0, none⟩)] 90)).alloc (.cells #[.int .i64 t] 3)).setCells nb 3 (List.replicate 36 (.bool false)) = W1) :
    W1.heap.size = w.heap.size + 1 + 1 ∧ NetR W1 B nb v l tk pl (List.replicate 36 false) ∧ Box W1 w.heap.size 90 [.pointer (some ⟨nb, 0, none⟩)] ∧ Box W1 (w.heap.size + 1) 3 [.int .i64 t] ∧ Kept (fun k => k = nb) w W1 := by
  subst hW
  have hlt := hnet.box.lt
  have hg := grownBy_setCells nb (List.replicate 36 (.bool false)) ((w.alloc (.cells #[.pointer (some ⟨nb, 0, none⟩)] 90)).alloc (.cells #[.int .i64 t] 3)) 3
  have hn := (hnet.alloc (.cells #[.pointer (some ⟨nb, 0, none⟩)] 90)).alloc (.cells #[.int .i64 t] 3)
  have hb := hn.box.setCells (List.replicate 36 (.bool false)) 3
  rw [net_blank v tk pl rc hnet.n36] at hb
  refine ⟨by rw [setCells_size]; simp, ⟨hb, hn.own.kept hg (.inr hn.ne), hn.ne, by simp⟩, ?_, ?_, ((Kept.refl _ w).alloc _).alloc _ |>.grown hg (fun k e => by cases e; exact .inl rfl)⟩
  · exact ((Box.new w #[.pointer (some ⟨nb, 0, none⟩)] 90).alloc _).grown hg (fun e => by cases e; omega)
  · exact (Box.newAt (w.alloc (.cells #[.pointer (some ⟨nb, 0, none⟩)] 90)) #[.int .i64 t] 3 (by simp)).grown hg (fun e => by cases e; omega)

theorem bfsw_start (w : World) (B nb : Nat) (v : Value) (l : List Ac) (tk pl : Nat) (rc : List Bool) (hnet : NetR w B nb v l tk pl rc) (t u : Nat) (byA bkA : Array Value) (W1 : World)
    (hW : ((w.alloc (.cells #[.pointer (some ⟨nb, 0, none⟩)] 90)).alloc (.cells #[.int .i64 t] 3)).setCells nb 3 (List.replicate 36 (.bool false)) = W1) :
    BfsW w (((((W1.setCell ⟨nb, 3 + u, none⟩ (.bool true)).alloc (.cells byA 130)).alloc (.cells bkA 120)).alloc (.cells #[.int .i64 u] 3)).alloc (.cells #[.slice (some ⟨w.heap.size + 1 + 1 + 1 + 1, 0, none⟩) 1 1] 22))
      w.heap.size B nb v l tk pl t ((List.replicate 36 false).set u true) byA.toList bkA.toList (.slice (some ⟨w.heap.size + 1 + 1 + 1 + 1, 0, none⟩) 1 1) (w.heap.size + 1 + 1 + 1 + 1) [u] := by
  obtain ⟨hz, hn, h5, h7, hk⟩ := start_facts w B nb v l tk pl rc hnet t W1 hW
  have hlt := hnet.box.lt
  have hz2 : (W1.setCell ⟨nb, 3 + u, none⟩ (.bool true)).heap.size = w.heap.size + 1 + 1 := by simp [World.setCell, hz]
  have hbox : Box (W1.setCell ⟨nb, 3 + u, none⟩ (.bool true)) nb 110 (netCells v tk pl ((List.replicate 36 false).set u true)) := by
    have := hn.box.set (3 + u) (.bool true)
    rw [show (netCells v tk pl (List.replicate 36 false)).set (3 + u) (.bool true) = netCells v tk pl ((List.replicate 36 false).set u true) by
      rw [show 3 + u = u + 1 + 1 + 1 by omega]; simp only [netCells, List.set_cons_succ, List.map_set]] at this
    exact this
  generalize hW2 : W1.setCell ⟨nb, 3 + u, none⟩ (.bool true) = W2 at *
  have hn2 : NetR W2 B nb v l tk pl ((List.replicate 36 false).set u true) := ⟨hbox, by rw [← hW2]; exact hn.own.other _ hn.ne, hn.ne, by simp⟩
  have h52 : Box W2 w.heap.size 90 [.pointer (some ⟨nb, 0, none⟩)] := by rw [← hW2]; exact h5.other _ (by dsimp only; omega)
  have h72 : Box W2 (w.heap.size + 1) 3 [.int .i64 t] := by rw [← hW2]; exact h7.other _ (by dsimp only; omega)
  have hk2 : Kept (fun k => k = nb) w W2 := by rw [← hW2]; exact hk.set _ (.inl rfl)
  have hq := QuR.lit ((W2.alloc (.cells byA 130)).alloc (.cells bkA 120)) u
  have e : ((W2.alloc (.cells byA 130)).alloc (.cells bkA 120)).heap.size = w.heap.size + 1 + 1 + 1 + 1 := by simp [hz2]
  rw [e] at hq
  refine ⟨(((hn2.alloc _).alloc _).alloc _).alloc _, fun k h => (World.ownsRow.lt hnet.own k h).2, hlt, rfl, (((h52.alloc _).alloc _).alloc _).alloc _, (((h72.alloc _).alloc _).alloc _).alloc _,
    (((Box.newAt W2 byA 130 hz2).alloc _).alloc _).alloc _, ((Box.newAt (W2.alloc (.cells byA 130)) bkA 120 (by simp [hz2])).alloc _).alloc _, Box.newAt _ #[_] 22 (by simp [hz2]), hq.alloc _, by omega, by omega, (((hk2.alloc _).alloc _).alloc _).alloc _⟩
end Go.Proofs.Ytlakcghdehdeiaa

/- A loop with a measure that stands in no slot; frames whose other slots hold whatever; the marks that ranges over a function leave behind them. -/
namespace Go.Proofs.Ytlakcghdehdeiaa
open Go Go.Proofs Go.RowKit Go.Shelf

section
variable {P : Program} {Q : Exit → Act → World → Prop} {a : Act} {w : World}
theorem least_exists (p : Nat → Prop) (h : ∃ n, p n) : ∃ n, p n ∧ ∀ k, p k → n ≤ k := by
  obtain ⟨n, hn⟩ := h
  induction n using Nat.strongRecOn with
  | _ n ih =>
    by_cases h : ∃ k, k < n ∧ p k
    · obtain ⟨k, hk, hp⟩ := h; exact ih k hk hp
    · exact ⟨n, hn, fun k hk => Nat.le_of_not_lt fun hlt => h ⟨k, hlt, hk⟩⟩
open Classical in
/-- The least number with a property. -/
noncomputable def leastN (p : Nat → Prop) : Nat := if h : ∃ n, p n then Classical.choose (least_exists p h) else 0
theorem leastN_spec {p : Nat → Prop} (h : ∃ n, p n) : p (leastN p) ∧ ∀ k, p k → leastN p ≤ k := by
  unfold leastN; rw [dif_pos h]; exact Classical.choose_spec (least_exists p h)
theorem leastN_lt {p q : Nat → Prop} {m : Nat} (h : p m) (hm : m < leastN q) : leastN p < leastN q := Nat.lt_of_le_of_lt ((leastN_spec ⟨m, h⟩).2 m h) hm

theorem wp_loop_g {c : Code} (I : Nat → Act → World → Prop) (m : Nat) (h₀ : I m a w)
    (round : ∀ m a w, I m a w → c.wp P (Exit.then (fun a' w' => ∃ m', m' < m ∧ I m' a' w') Q) a w) : (Code.loop c).wp P Q a w := by
  refine wp_loop (fun a w => ∃ m, I m a w) (fun a w => leastN fun m => I m a w) ⟨m, h₀⟩ fun a w h => ?_
  obtain ⟨h1, _⟩ := leastN_spec h
  have := round _ a w h1
  refine (wpIn_wide (n := 0)).1 (wpIn_mono ((wpIn_wide (n := 0)).2 this) fun e a' w' hq => ?_)
  cases e with
  | normal =>
    obtain ⟨m', hm, hi⟩ := hq
    exact ⟨⟨m', hi⟩, leastN_lt (p := fun m => I m a' w') hi hm⟩
  | _ => exact hq
end

/-- A list of a known length, written out. -/
theorem list_range (L : List Value) (n : Nat) (h : L.length = n) : L = (List.range n).map fun i => L.getD i undef := by
  apply List.ext_getElem?
  intro i
  by_cases hi : i < L.length
  · simp [← h, hi]
  · rw [List.getElem?_eq_none (by omega), List.getElem?_eq_none (by simp; omega)]

/-- What is no cells may turn: cells, rows, boxes stay. -/
def NoCells (W : World) (row : Option Nat) : Prop := ∀ r, row = some r → ∃ o : Obj, W.heap[r]? = some o ∧ o.isCells = false
theorem NoCells.box {W : World} {row : Option Nat} (h : NoCells W row) {b : Nat} {e : TypeId} {vs : List Value} (hb : Box W b e vs) : some b ≠ row := fun e' => by
  obtain ⟨o, ho, hc⟩ := h b e'.symm
  rw [show W.heap[b]? = _ from hb] at ho; cases ho; cases hc
theorem NoCells.own {W : World} {row : Option Nat} (h : NoCells W row) {α : Type} {f : α → List Value} {sz : Nat} {e : TypeId} {base : Nat} {v : Value} {l : List α} (ho : Own f sz e W base v l) : v.ownBlock = none ∨ v.ownBlock ≠ row := by
  rcases ho.2 with ⟨rfl, _⟩ | ⟨g, cap, cur, rfl, _, hg, _⟩
  · exact .inl rfl
  · refine .inr fun e' => ?_
    obtain ⟨o, hx, hc⟩ := h g (by rw [← e']; rfl)
    rw [hg] at hx; cases hx; cases hc
theorem NoCells.qu {W : World} {row : Option Nat} (h : NoCells W row) {g : Nat} {v : Value} {q : List Nat} (hq : QuR W g v q) : some g ≠ row := fun e' => by
  obtain ⟨off, cap, cur, _, hg, _⟩ := hq
  obtain ⟨o, ho, hc⟩ := h g e'.symm
  rw [hg] at ho; cases ho; cases hc
theorem NoCells.cell {W : World} {row : Option Nat} (h : NoCells W row) {a : Addr} {v : Value} (hc : W.cell? a = some v) : some a.block ≠ row := fun e' => by
  obtain ⟨o, ho, hc'⟩ := h a.block e'.symm
  obtain ⟨o', ho', hc''⟩ := cells_of_cell hc
  rw [ho] at ho'; cases ho'; rw [hc'] at hc''; cases hc''

theorem ItR.step {w w' : World} {p B nb : Nat} {v : Value} {l : List Ac} {u : Nat} {wo : Int} {row : Option Nat} (h : ItR w p B nb v l u wo) (hg : w.grownBy w' row) (hr : NoCells w row) : ItR w' p B nb v l u wo :=
  ⟨h.b1.grown hg (hr.box h.b1), h.b2.grown hg (hr.box h.b2), h.b3.grown hg (hr.box h.b3), ⟨(World.cell?_of_block (hg.block nb h.net.lt (hr.cell (a := ⟨nb, 0, none⟩) h.net.c0))).trans h.net.c0, Nat.lt_of_lt_of_le h.net.lt hg.size, h.net.own.kept hg (hr.own h.net.own)⟩⟩
theorem KpS.b {p B nb : Nat} {v : Value} {l : List Ac} {u : Nat} {wo : Int} (W : World) (k : Nat) (o o' : Obj) (h : W.heap[k]? = some o) (ho : o.isCells = false) : KpS p B nb v l u wo W (W.putObj k o') :=
  ⟨fun hi => hi.step (grownBy_putObj' W k o') (fun r e => by cases e; exact ⟨o, h, ho⟩), (grownBy_putObj' W k o').size⟩

theorem BfsW.noCells {w wr wr' : World} {N B nb : Nat} {v : Value} {l : List Ac} {tk pl t : Nat} {rc : List Bool} {byC bkC : List Value} {vq : Value} {g : Nat} {qu : List Nat} {row : Option Nat}
    (h : BfsW w wr N B nb v l tk pl t rc byC bkC vq g qu) (hg : wr.grownBy wr' row) (hr : NoCells wr row) (hge : ∀ k, row = some k → w.heap.size ≤ k) : BfsW w wr' N B nb v l tk pl t rc byC bkC vq g qu := by
  have hx : ∀ b, some b ≠ row → ∀ k, row = some k → k ≠ b := fun b hb k e e' => hb (by rw [e, e'])
  refine h.step hg fun k e => ⟨hx _ (hr.box h.net.box) k e, ?_, hx _ (hr.box h.b5) k e, hx _ (hr.box h.b7) k e, hx _ (hr.box h.byB) k e, hx _ (hr.box h.bkB) k e, hx _ (hr.box h.bq) k e, hx _ (hr.qu h.q) k e, hge k e⟩
  rcases hr.own h.net.own with h1 | h1
  · rw [h1]; simp
  · rw [← e]; exact h1

/-- The marks that are left to be taken up: their blocks are there, and hold no calls. -/
def marksOf (Ds : List Nat) : List Deferred := Ds.map fun D => { target := .collected D, args := #[] }
def MarksIn (W : World) (Ds : List Nat) : Prop := ∀ D ∈ Ds, W.heap[D]? = some (.deferred (some []))
theorem MarksIn.keeps {W W' : World} {Ds : List Nat} (h : MarksIn W Ds) (hk : KeepsOthers W W') : MarksIn W' Ds := fun D hD => hk.same D _ (h D hD) rfl
theorem MarksIn.later {W W' : World} {Ds : List Nat} (h : MarksIn W Ds) (hb : Below W.heap.size W W') : MarksIn W' Ds := fun D hD => (hb.block D (Array.getElem?_eq_some_iff.1 (h D hD)).1).trans (h D hD)

theorem putObj_kept {S : Nat → Prop} {w W : World} {D : Nat} {o : Obj} (h : Kept S w W) (hD : w.heap.size ≤ D) : Kept S w (W.putObj D o) :=
  h.grown (grownBy_putObj' W D o) (fun k e => by cases e; exact .inr hD)

/-- The function returns: its marks are taken up one by one. -/
theorem leaves_marks {w0s : Nat} {F : Fence} {n : Nat} {P : Program} {fn : Func} {tmps : Array Value} {R : Ending → World → Prop} {v : Value} (hres : ∀ W : World, (results fn tmps).run P W = .ok v W) (G : World → Prop)
    (hG : ∀ (W : World) (D : Nat) (o : Obj), G W → W.heap[D]? = some o → o.isCells = false → w0s ≤ D → G (W.putObj D (.deferred none))) (hR : ∀ W, G W → R (.returned v) W) :
    ∀ (Ds : List Nat) (W : World), Ds.Nodup → MarksIn W Ds → (∀ D ∈ Ds, w0s ≤ D) → G W → LeavesInM F n P fn tmps R (marksOf Ds) .returning W
  | [], W, _, _, _, hg => ⟨v, hres W, hR W hg⟩
  | D :: Ds, W, hn, hm, hw, hg => by
    have hD := hm D (by simp)
    obtain ⟨h1, h2⟩ := List.nodup_cons.1 hn
    refine ⟨by simp, .inl ⟨D, _, rfl, run_takeDeferred hD, ?_⟩⟩
    refine leaves_marks hres G hG hR Ds _ h2 (fun E hE => ?_) (fun E hE => hw E (by simp [hE])) (hG W D _ hg hD rfl (hw D (by simp)))
    rw [World.putObj_heap_other (by intro e; subst e; exact h1 hE)]
    exact hm E (by simp [hE])
end Go.Proofs.Ytlakcghdehdeiaa
