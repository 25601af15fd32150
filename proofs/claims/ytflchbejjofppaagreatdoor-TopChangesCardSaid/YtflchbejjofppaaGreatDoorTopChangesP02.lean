/- Lemmas on the way to the law TopChanges (part 2): WNa WNb WNc -/
import Derived.Lib.Hide
import Derived.Test.YtflchbejjofppaaGreatDoorTopChangesP01
import Derived.RegionTactic
import Derived.WalkSmall
import Derived.RangeFuncNested
import Derived.RangeFuncBound
import Derived.RangeFuncCalls
import Derived.RangeFuncLeaves
import Derived.Shelf.Abstract
import Derived.Shelf.RegionOpen
import Derived.WalkKit
import Derived.OwnWalkIn
import Derived.TacticsInMore
import Derived.LoopNIn
import Derived.LoopIn
set_option linter.unusedVariables false
set_option linter.unusedSimpArgs false

/- Networks of arcs with ranges, with what flows along them: what comes to a node, cuts, and what pushing along a way does. No program here. -/
namespace Go.Proofs.YtflchbejjofppaaGreatDoor
structure Ac where
  fr : Nat
  to : Nat
  lo : Int
  hi : Int
  fl : Int
def tot {α : Type} (f : α → Int) : List α → Int
  | [] => 0
  | x :: l => f x + tot f l
theorem tot_append {α : Type} (f : α → Int) (l l' : List α) : tot f (l ++ l') = tot f l + tot f l' := by
  induction l with
  | nil => simp [tot]
  | cons x l ih => simp [tot, ih, Int.add_assoc]
theorem tot_le {α : Type} (f g : α → Int) (l : List α) (h : ∀ x ∈ l, f x ≤ g x) : tot f l ≤ tot g l := by
  induction l with
  | nil => simp [tot]
  | cons x l ih =>
    have h1 := h x (by simp)
    have h2 := ih fun y hy => h y (by simp [hy])
    simp only [tot]; omega
theorem tot_congr {α : Type} (f g : α → Int) (l : List α) (h : ∀ x ∈ l, f x = g x) : tot f l = tot g l := by
  induction l with
  | nil => rfl
  | cons x l ih => simp only [tot]; rw [h x (by simp), ih fun y hy => h y (by simp [hy])]
theorem tot_add {α : Type} (f g : α → Int) (l : List α) : tot (fun x => f x + g x) l = tot f l + tot g l := by
  induction l with
  | nil => rfl
  | cons x l ih => simp only [tot, ih]; omega
theorem tot_bound {α : Type} (f : α → Int) (c : Int) (l : List α) (h : ∀ x ∈ l, -c ≤ f x ∧ f x ≤ c) : -(l.length * c) ≤ tot f l ∧ tot f l ≤ l.length * c := by
  induction l with
  | nil => simp [tot]
  | cons x l ih =>
    have h1 := h x (by simp)
    have h2 := ih fun y hy => h y (by simp [hy])
    simp only [tot, List.length_cons, Int.natCast_add, Int.add_mul]; omega
def Ac.at (a : Ac) (v : Nat) : Int := (if a.to = v then a.fl else 0) - (if a.fr = v then a.fl else 0)
def exc (v : Nat) (l : List Ac) : Int := tot (fun a => a.at v) l
def Ac.into (R : Nat → Bool) (a : Ac) : Int := (if R a.to = true then a.fl else 0) - (if R a.fr = true then a.fl else 0)
def cross (R : Nat → Bool) (l : List Ac) : Int := tot (fun a => a.into R) l
def sumN : Nat → (Nat → Int) → Int
  | 0, _ => 0
  | n + 1, f => sumN n f + f n
theorem sumN_congr (n : Nat) (f g : Nat → Int) (h : ∀ v, v < n → f v = g v) : sumN n f = sumN n g := by
  induction n with
  | zero => rfl
  | succ n ih => simp only [sumN]; rw [ih fun v hv => h v (by omega), h n (by omega)]
theorem sumN_zero (n : Nat) : sumN n (fun _ => 0) = 0 := by
  induction n with
  | zero => rfl
  | succ n ih => simp [sumN, ih]
theorem sumN_add (n : Nat) (f g : Nat → Int) : sumN n (fun v => f v + g v) = sumN n f + sumN n g := by
  induction n with
  | zero => rfl
  | succ n ih => simp only [sumN, ih]; omega
theorem sumN_sub (n : Nat) (f g : Nat → Int) : sumN n (fun v => f v - g v) = sumN n f - sumN n g := by
  induction n with
  | zero => rfl
  | succ n ih => simp only [sumN, ih]; omega
theorem sumN_le (n : Nat) (f g : Nat → Int) (h : ∀ v, v < n → f v ≤ g v) : sumN n f ≤ sumN n g := by
  induction n with
  | zero => simp [sumN]
  | succ n ih =>
    have h1 := h n (by omega)
    have h2 := ih fun v hv => h v (by omega)
    simp only [sumN]; omega
theorem sumN_point (n k : Nat) (c : Int) (hk : k < n) (R : Nat → Bool) : sumN n (fun v => if R v = true then (if k = v then c else 0) else 0) = if R k = true then c else 0 := by
  induction n with
  | zero => omega
  | succ n ih =>
    simp only [sumN]
    by_cases h : k = n
    · subst h
      rw [show sumN k (fun v => if R v = true then (if k = v then c else 0) else 0) = 0 by
        refine (sumN_congr _ _ (fun _ => 0) fun v hv => ?_).trans (sumN_zero k)
        have : k ≠ v := by omega
        simp [this]]
      simp
    · rw [ih (by omega), if_neg h]; simp
def Ends (n : Nat) (l : List Ac) : Prop := ∀ a ∈ l, a.fr < n ∧ a.to < n
theorem sumN_cross (n : Nat) (R : Nat → Bool) (l : List Ac) (h : Ends n l) : sumN n (fun v => if R v = true then exc v l else 0) = cross R l := by
  induction l with
  | nil =>
    exact (sumN_congr _ _ _ fun v _ => by simp [exc, tot]).trans (sumN_zero n)
  | cons a l ih =>
    have ha := h a (by simp)
    have h1 := ih fun b hb => h b (by simp [hb])
    have e : sumN n (fun v => if R v = true then exc v (a :: l) else 0) = sumN n (fun v => ((if R v = true then (if a.to = v then a.fl else 0) else 0) - (if R v = true then (if a.fr = v then a.fl else 0) else 0)) + (if R v = true then exc v l else 0)) :=
      sumN_congr _ _ _ fun v _ => by
        by_cases hv : R v = true
        · simp only [hv, if_true]; rfl
        · simp [hv]
    rw [e, sumN_add, sumN_sub, sumN_point n a.to a.fl ha.2, sumN_point n a.fr a.fl ha.1, h1]
    rfl
def Ac.bare (a : Ac) : Ac := { a with fl := 0 }
def shp (l : List Ac) : List Ac := l.map Ac.bare
theorem shp_length {l l' : List Ac} (h : shp l = shp l') : l.length = l'.length := by
  have := congrArg List.length h; simpa [shp] using this
theorem bare_eq {a b : Ac} (h : a.bare = b.bare) : a.fr = b.fr ∧ a.to = b.to ∧ a.lo = b.lo ∧ a.hi = b.hi := by
  cases a; cases b; simp [Ac.bare] at h; simpa using h
theorem shp_get {l l' : List Ac} (h : shp l = shp l') (i : Nat) (h1 : i < l.length) (h2 : i < l'.length) : l[i].bare = l'[i].bare := by
  have e : (shp l)[i]? = (shp l')[i]? := by rw [h]
  simp only [shp, List.getElem?_map, List.getElem?_eq_getElem h1, List.getElem?_eq_getElem h2, Option.map_some, Option.some.injEq] at e
  exact e
theorem shp_ends {n : Nat} : ∀ {l l' : List Ac}, shp l = shp l' → Ends n l → Ends n l'
  | [], [], _, h => h
  | [], _ :: _, h, _ => by simp [shp] at h
  | _ :: _, [], h, _ => by simp [shp] at h
  | a :: l, b :: l', h, hE => by
    simp only [shp, List.map_cons, List.cons.injEq] at h
    obtain ⟨e1, e2, e3, e4⟩ := bare_eq h.1
    intro c hc
    rcases List.mem_cons.1 hc with rfl | hc
    · have := hE a (by simp); rw [← e1, ← e2]; exact this
    · exact shp_ends h.2 (fun d hd => hE d (by simp [hd])) c hc
def Fits (l : List Ac) : Prop := ∀ a ∈ l, a.lo ≤ a.fl ∧ a.fl ≤ a.hi
def Ac.tight (R : Nat → Bool) (a : Ac) : Prop := (R a.fr = true → R a.to = false → a.hi ≤ a.fl) ∧ (R a.to = true → R a.fr = false → a.fl ≤ a.lo)
theorem cut_le (R : Nat → Bool) : ∀ (l l' : List Ac), shp l = shp l' → Fits l' → (∀ a ∈ l, a.tight R) → cross R l ≤ cross R l'
  | [], [], _, _, _ => Int.le_refl _
  | [], _ :: _, h, _, _ => by simp [shp] at h
  | _ :: _, [], h, _, _ => by simp [shp] at h
  | a :: l, b :: l', h, hF, hT => by
    simp only [shp, List.map_cons, List.cons.injEq] at h
    obtain ⟨e1, e2, e3, e4⟩ := bare_eq h.1
    have ih := cut_le R l l' h.2 (fun d hd => hF d (by simp [hd])) (fun d hd => hT d (by simp [hd]))
    obtain ⟨t1, t2⟩ := hT a (by simp)
    obtain ⟨f1, f2⟩ := hF b (by simp)
    show a.into R + cross R l ≤ b.into R + cross R l'
    have : a.into R ≤ b.into R := by
      unfold Ac.into
      rw [← e1, ← e2]
      cases h1 : R a.fr <;> cases h2 : R a.to
      · simp
      · have := t2 h2 h1; simp; omega
      · have := t1 h1 h2; simp; omega
      · simp
    omega
structure Circ (n : Nat) (l : List Ac) : Prop where
  fits : Fits l
  bal : ∀ v, v < n → exc v l = 0
theorem Circ.cross {n : Nat} {l : List Ac} (h : Circ n l) (hE : Ends n l) (R : Nat → Bool) : cross R l = 0 := by
  rw [← sumN_cross n R l hE]
  exact (sumN_congr _ _ _ fun v hv => by rw [h.bal v hv]; simp).trans (sumN_zero n)
theorem split_at {α : Type} (l : List α) (i : Nat) (h : i < l.length) : l = l.take i ++ l[i] :: l.drop (i + 1) := by
  rw [← List.drop_eq_getElem_cons h, List.take_append_drop]
theorem cross_at (R : Nat → Bool) (l : List Ac) (i : Nat) (h : i < l.length) : cross R l = cross R (l.take i ++ l.drop (i + 1)) + l[i].into R := by
  have e := congrArg (cross R) (split_at l i h)
  rw [e]
  unfold cross
  rw [tot_append, tot_append]
  simp only [tot]
  omega
theorem shp_cut {l l' : List Ac} (h : shp l = shp l') (i : Nat) : shp (l.take i ++ l.drop (i + 1)) = shp (l'.take i ++ l'.drop (i + 1)) := by
  unfold shp at *
  simp only [List.map_append, List.map_take, List.map_drop, h]
theorem mem_cutOut {l : List Ac} {i : Nat} {a : Ac} (h : a ∈ l.take i ++ l.drop (i + 1)) : ∃ j, ∃ hj : j < l.length, j ≠ i ∧ l[j] = a := by
  rcases List.mem_append.1 h with h | h
  · obtain ⟨j, hj, e⟩ := List.mem_iff_getElem.1 h
    have : j < i ∧ j < l.length := by rw [List.length_take] at hj; omega
    exact ⟨j, this.2, by omega, by simpa using e⟩
  · obtain ⟨j, hj, e⟩ := List.mem_iff_getElem.1 h
    have : j < l.length - (i + 1) := by rw [List.length_drop] at hj; exact hj
    exact ⟨i + 1 + j, by omega, by omega, by simpa using e⟩
def Closed (R : Nat → Bool) (wo : Int) (l : List Ac) : Prop := ∀ j (h : j < l.length), (j : Int) ≠ wo → l[j].tight R
theorem most_of_closed {n : Nat} {l l' : List Ac} {i : Nat} {R : Nat → Bool} (hs : shp l = shp l') (hE : Ends n l) (hc : Circ n l) (hc' : Circ n l') (h : i < l.length) (h' : i < l'.length)
    (hC : Closed R i l) (h1 : R l[i].to = true) (h2 : R l[i].fr = false) : l'[i].fl ≤ l[i].fl := by
  have e := hc.cross hE R
  have e' := hc'.cross (shp_ends hs hE) R
  rw [cross_at R l i h] at e
  rw [cross_at R l' i h'] at e'
  have hle := cut_le R _ _ (shp_cut hs i) (fun a ha => by obtain ⟨j, hj, _, rfl⟩ := mem_cutOut ha; exact hc'.fits _ (List.getElem_mem hj)) (fun a ha => by obtain ⟨j, hj, hne, rfl⟩ := mem_cutOut ha; exact hC j hj (by omega))
  obtain ⟨e1, e2, _, _⟩ := bare_eq (shp_get hs i h h')
  have i1 : l[i].into R = l[i].fl := by unfold Ac.into; rw [h1, h2]; simp
  have i2 : l'[i].into R = l'[i].fl := by unfold Ac.into; rw [← e1, ← e2, h1, h2]; simp
  omega
theorem least_of_closed {n : Nat} {l l' : List Ac} {i : Nat} {R : Nat → Bool} (hs : shp l = shp l') (hE : Ends n l) (hc : Circ n l) (hc' : Circ n l') (h : i < l.length) (h' : i < l'.length)
    (hC : Closed R i l) (h1 : R l[i].to = false) (h2 : R l[i].fr = true) : l[i].fl ≤ l'[i].fl := by
  have e := hc.cross hE R
  have e' := hc'.cross (shp_ends hs hE) R
  rw [cross_at R l i h] at e
  rw [cross_at R l' i h'] at e'
  have hle := cut_le R _ _ (shp_cut hs i) (fun a ha => by obtain ⟨j, hj, _, rfl⟩ := mem_cutOut ha; exact hc'.fits _ (List.getElem_mem hj)) (fun a ha => by obtain ⟨j, hj, hne, rfl⟩ := mem_cutOut ha; exact hC j hj (by omega))
  obtain ⟨e1, e2, _, _⟩ := bare_eq (shp_get hs i h h')
  have i1 : l[i].into R = -l[i].fl := by unfold Ac.into; rw [h1, h2]; simp
  have i2 : l'[i].into R = -l'[i].fl := by unfold Ac.into; rw [← e1, ← e2, h1, h2]; simp
  omega
/-! ### Ways -/
abbrev St := Nat × Bool
def headOf (l : List Ac) (s : St) : Nat := match l[s.1]? with | some a => if s.2 then a.to else a.fr | none => 0
def tailOf (l : List Ac) (s : St) : Nat := match l[s.1]? with | some a => if s.2 then a.fr else a.to | none => 0
def roomOf (l : List Ac) (s : St) : Int := match l[s.1]? with | some a => if s.2 then a.hi - a.fl else a.fl - a.lo | none => 0
def Wy (l : List Ac) (wo : Int) : Nat → List St → Nat → Prop
  | v, [], u => v = u
  | v, s :: p, u => s.1 < l.length ∧ (s.1 : Int) ≠ wo ∧ headOf l s = v ∧ Wy l wo (tailOf l s) p u
def bump (l : List Ac) (s : St) (m : Int) : List Ac := l.modify s.1 fun a => { a with fl := if s.2 then a.fl + m else a.fl - m }
def pushes (l : List Ac) : List St → Int → List Ac
  | [], _ => l
  | s :: p, m => pushes (bump l s m) p m
theorem shp_bump (l : List Ac) (s : St) (m : Int) : shp (bump l s m) = shp l := by
  apply List.ext_getElem?
  intro i
  simp only [shp, bump, List.getElem?_map, List.getElem?_modify]
  cases l[i]? with
  | none => simp
  | some a => simp; split <;> rfl
theorem headOf_shp {l l' : List Ac} (h : shp l = shp l') (s : St) : headOf l s = headOf l' s ∧ tailOf l s = tailOf l' s := by
  have hl := shp_length h
  unfold headOf tailOf
  by_cases hs : s.1 < l.length
  · obtain ⟨e1, e2, _, _⟩ := bare_eq (shp_get h s.1 hs (by omega))
    rw [List.getElem?_eq_getElem hs, List.getElem?_eq_getElem (show s.1 < l'.length by omega)]
    simp only [e1, e2, and_self]
  · rw [List.getElem?_eq_none (by omega), List.getElem?_eq_none (by omega)]; exact ⟨rfl, rfl⟩
theorem Wy.shp {l l' : List Ac} (h : shp l = shp l') {wo : Int} : ∀ {p : List St} {v u : Nat}, Wy l wo v p u → Wy l' wo v p u
  | [], _, _, hw => hw
  | s :: p, _, _, ⟨a, b, c, d⟩ => by
    obtain ⟨e1, e2⟩ := headOf_shp h s
    exact ⟨by rw [← shp_length h]; exact a, b, by rw [← e1]; exact c, by rw [← e2]; exact Wy.shp h d⟩
theorem exc_bump (l : List Ac) (s : St) (m : Int) (x : Nat) (h : s.1 < l.length) : exc x (bump l s m) = exc x l + (if headOf l s = x then m else 0) - (if tailOf l s = x then m else 0) := by
  obtain ⟨i, f⟩ := s
  have h : i < l.length := h
  have e : bump l (i, f) m = l.take i ++ { l[i] with fl := if f then l[i].fl + m else l[i].fl - m } :: l.drop (i + 1) := by
    unfold bump
    apply List.ext_getElem?
    intro k
    simp only [List.getElem?_modify]
    rcases Nat.lt_trichotomy k i with hk | rfl | hk
    · rw [List.getElem?_append_left (by simp; omega), List.getElem?_take, if_pos hk]; simp [show i ≠ k by omega]
    · rw [List.getElem?_append_right (by simp; omega)]
      simp [h, show min k l.length = k by omega]
    · rw [List.getElem?_append_right (by simp; omega)]
      rw [show k - (l.take i).length = (k - i - 1) + 1 by simp; omega, List.getElem?_cons_succ, List.getElem?_drop, show i + 1 + (k - i - 1) = k by omega]
      simp [show i ≠ k by omega]
  rw [e]
  have e2 := congrArg (exc x) (split_at l i h)
  rw [e2]
  unfold exc headOf tailOf
  rw [tot_append, tot_append, List.getElem?_eq_getElem h]
  simp only [tot, Ac.at]
  cases f <;> simp <;> (repeat' split) <;> omega
theorem exc_pushes {wo : Int} (x : Nat) (m : Int) : ∀ {p : List St} {l : List Ac} {v u : Nat}, Wy l wo v p u → exc x (pushes l p m) = exc x l + (if v = x then m else 0) - (if u = x then m else 0)
  | [], _, v, u, h => by
    obtain rfl : v = u := h
    simp only [pushes]; omega
  | s :: p, l, v, u, ⟨h1, h2, h3, h4⟩ => by
    rw [pushes, exc_pushes x m (Wy.shp (shp_bump l s m).symm h4), exc_bump l s m x h1, h3]
    omega
theorem shp_pushes (m : Int) : ∀ (p : List St) (l : List Ac), shp (pushes l p m) = shp l
  | [], _ => rfl
  | s :: p, l => by rw [pushes, shp_pushes m p, shp_bump]
theorem bump_get_other (l : List Ac) (s : St) (m : Int) {i : Nat} (h : i ≠ s.1) : (bump l s m)[i]? = l[i]? := by
  simp [bump, Ne.symm h]
theorem bump_length (l : List Ac) (s : St) (m : Int) : (bump l s m).length = l.length := by simp [bump]
theorem roomOf_bump_other (l : List Ac) (s t : St) (m : Int) (h : t.1 ≠ s.1) : roomOf (bump l s m) t = roomOf l t := by
  unfold roomOf; rw [bump_get_other l s m h]
theorem fits_iff (l : List Ac) : Fits l ↔ ∀ (i : Nat) (a : Ac), l[i]? = some a → a.lo ≤ a.fl ∧ a.fl ≤ a.hi :=
  ⟨fun h i a e => h a (List.mem_of_getElem? e), fun h a ha => by obtain ⟨i, e⟩ := List.mem_iff_getElem?.1 ha; exact h i a e⟩
theorem fits_bump {l : List Ac} {s : St} {m : Int} (h : Fits l) (h0 : 0 ≤ m) (hm : m ≤ roomOf l s) : Fits (bump l s m) := by
  rw [fits_iff] at *
  intro i a e
  by_cases hi : i = s.1
  · subst hi
    unfold bump at e
    simp only [List.getElem?_modify, if_true] at e
    unfold roomOf at hm
    cases hb : l[s.1]? with
    | none => rw [hb] at e; simp at e
    | some b =>
      rw [hb] at e hm
      simp only [Option.map_eq_map, Option.map_some, Option.some.injEq] at e hm
      obtain ⟨h1, h2⟩ := h _ b hb
      subst e
      dsimp only
      cases hs : s.2 <;> simp only [hs, if_true, if_false, Bool.false_eq_true] at hm ⊢ <;> omega
  · rw [bump_get_other l s m hi] at e
    exact h i a e
theorem fits_pushes {m : Int} (h0 : 0 ≤ m) : ∀ {p : List St} {l : List Ac}, Fits l → (p.map Prod.fst).Nodup → (∀ s ∈ p, m ≤ roomOf l s) → Fits (pushes l p m)
  | [], _, h, _, _ => h
  | s :: p, l, h, hn, hm => by
    simp only [List.map_cons, List.nodup_cons] at hn
    show Fits (pushes (bump l s m) p m)
    refine fits_pushes h0 (fits_bump h h0 (hm s (by simp))) hn.2 fun t ht => ?_
    have hne : t.1 ≠ s.1 := fun e => hn.1 (by rw [← e]; exact List.mem_map_of_mem ht)
    rw [roomOf_bump_other l s t m hne]
    exact hm t (by simp [ht])
theorem pushes_get_other {m : Int} {i : Nat} : ∀ {p : List St} {l : List Ac}, (∀ s ∈ p, s.1 ≠ i) → (pushes l p m)[i]? = l[i]?
  | [], _, _ => rfl
  | s :: p, l, h => by
    rw [pushes, pushes_get_other (p := p) fun t ht => h t (by simp [ht]), bump_get_other l s m (Ne.symm (h s (by simp)))]
theorem Wy.avoid {l : List Ac} {wo : Int} : ∀ {p : List St} {v u : Nat}, Wy l wo v p u → ∀ s ∈ p, s.1 < l.length ∧ (s.1 : Int) ≠ wo
  | [], _, _, _, s, hs => by simp at hs
  | t :: p, _, _, ⟨a, b, _, d⟩, s, hs => by
    rcases List.mem_cons.1 hs with rfl | hs
    · exact ⟨a, b⟩
    · exact Wy.avoid d s hs
theorem Wy.nodup {l : List Ac} {wo : Int} {rk : Nat → Nat} : ∀ {p : List St} {v u : Nat}, Wy l wo v p u → (∀ s ∈ p, rk (tailOf l s) < rk (headOf l s)) →
    (p.map Prod.fst).Nodup ∧ ∀ s ∈ p, rk (headOf l s) ≤ rk v
  | [], _, _, _, _ => ⟨by simp, by simp⟩
  | s :: p, v, u, ⟨h1, h2, h3, h4⟩, hr => by
    obtain ⟨i1, i2⟩ := Wy.nodup h4 fun t ht => hr t (by simp [ht])
    have hs := hr s (by simp)
    refine ⟨?_, fun t ht => ?_⟩
    · simp only [List.map_cons, List.nodup_cons]
      refine ⟨fun hm => ?_, i1⟩
      obtain ⟨t, ht, e⟩ := List.mem_map.1 hm
      have k1 := i2 t ht
      have k2 := hr t (by simp [ht])
      obtain ⟨i, f⟩ := s
      obtain ⟨i', g⟩ := t
      obtain rfl : i' = i := e
      have h1 : i' < l.length := h1
      unfold headOf tailOf at *
      rw [List.getElem?_eq_getElem h1] at *
      cases f <;> cases g <;> simp at k1 k2 hs <;> omega
    · rcases List.mem_cons.1 ht with rfl | ht
      · rw [h3]; exact Nat.le_refl _
      · have := i2 t ht
        rw [h3] at hs; omega
theorem Closed.no_way {R : Nat → Bool} {wo : Int} {l : List Ac} (hC : Closed R wo l) : ∀ {p : List St} {v u : Nat}, Wy l wo v p u → (∀ s ∈ p, 0 < roomOf l s) → R u = true → R v = true
  | [], v, u, h, _, hu => by obtain rfl : v = u := h; exact hu
  | s :: p, v, u, ⟨h1, h2, h3, h4⟩, hr, hu => by
    have ht := Closed.no_way hC h4 (fun t ht => hr t (by simp [ht])) hu
    have h0 := hr s (by simp)
    obtain ⟨t1, t2⟩ := hC s.1 h1 h2
    unfold headOf at h3
    unfold tailOf at ht
    unfold roomOf at h0
    rw [List.getElem?_eq_getElem h1] at h3 ht h0
    rw [← h3]
    cases hs : s.2 <;> simp only [hs, if_true, if_false, Bool.false_eq_true] at ht h0 ⊢
    · cases hx : R (l[s.1]).fr with
      | true => rfl
      | false => have := t2 ht hx; omega
    · cases hx : R (l[s.1]).to with
      | true => rfl
      | false => have := t1 ht hx; omega
end Go.Proofs.YtflchbejjofppaaGreatDoor
/- Networks in memory: the record of a network, its row of arcs; walks of room. -/
namespace Go.Proofs.YtflchbejjofppaaGreatDoor
open Go Go.Proofs Go.RowKit
def Ac.encW (a : Ac) : List Value := [.int .i64 a.lo, .int .i64 a.hi, .int .i64 a.fr, .int .i64 a.to, .int .i64 a.fl]
theorem Ac.encW_len (a : Ac) : a.encW.length = 5 := rfl
def netCells (v : Value) (tk pl : Nat) (rc : List Bool) : List Value := v :: .int .i64 tk :: .int .i64 pl :: rc.map Value.bool
structure NetR (w : World) (B nb : Nat) (v : Value) (l : List Ac) (tk pl : Nat) (rc : List Bool) : Prop where
  box : Box w nb 96 (netCells v tk pl rc)
  own : Own Ac.encW 5 92 w B v l
  ne : v.ownBlock ≠ some nb
  n36 : rc.length = 36
theorem NetR.later {w w' : World} {B nb : Nat} {v : Value} {l : List Ac} {tk pl : Nat} {rc : List Bool} (h : NetR w B nb v l tk pl rc) (hb : Below w.heap.size w w') : NetR w' B nb v l tk pl rc :=
  ⟨h.box.later hb, h.own.later hb, h.ne, h.n36⟩
theorem NetR.alloc {w : World} {B nb : Nat} {v : Value} {l : List Ac} {tk pl : Nat} {rc : List Bool} (h : NetR w B nb v l tk pl rc) (o : Obj) : NetR (w.alloc o) B nb v l tk pl rc :=
  ⟨h.box.alloc o, h.own.alloc o, h.ne, h.n36⟩
structure NetA (w : World) (B nb : Nat) (v : Value) (l : List Ac) : Prop where
  c0 : w.cell? ⟨nb, 0, none⟩ = some v
  lt : nb < w.heap.size
  own : Own Ac.encW 5 92 w B v l
theorem NetR.toA {w : World} {B nb : Nat} {v : Value} {l : List Ac} {tk pl : Nat} {rc : List Bool} (h : NetR w B nb v l tk pl rc) : NetA w B nb v l :=
  ⟨by have := h.box.cell 0; simpa [netCells] using this, h.box.lt, h.own⟩
theorem NetA.later {w w' : World} {B nb : Nat} {v : Value} {l : List Ac} (h : NetA w B nb v l) (hb : Below w.heap.size w w') : NetA w' B nb v l :=
  ⟨(hb.cell (p := ⟨nb, 0, none⟩) h.lt).trans h.c0, Nat.lt_of_lt_of_le h.lt hb.size, h.own.later hb⟩
theorem NetA.alloc {w : World} {B nb : Nat} {v : Value} {l : List Ac} (h : NetA w B nb v l) (o : Obj) : NetA (w.alloc o) B nb v l :=
  h.later ((Below.refl _ _).alloc (Nat.le_refl _) _)
def Small (l : List Ac) (c : Int) : Prop := ∀ a ∈ l, -c ≤ a.lo ∧ a.lo ≤ c ∧ -c ≤ a.hi ∧ a.hi ≤ c ∧ -c ≤ a.fl ∧ a.fl ≤ c
set_option maxHeartbeats 400000 in
theorem room97 (w : World) (B nb : Nat) (v : Value) (l : List Ac) (i : Nat) (f : Bool) (h : NetA w B nb v l) (hi : i < l.length) (hl : l.length ≤ 1000) (hs : Small l 1000000000000) :
    Calls Tryz.prog 85 #[.pointer (some ⟨nb, 0, none⟩), .agg #[.int .i64 i, .bool f]] w (Ret (.int .i64 (roomOf l (i, f))) w) := by
  obtain ⟨g, cap, rfl, hg, hgs⟩ := h.own.form (by omega)
  have c0 := h.c0
  obtain ⟨e0, e1, e2, e3, e4⟩ := (h.own.at Ac.encW_len i hi).c5
  have hb := h.lt
  have hsm := hs l[i] (List.getElem_mem hi)
  obtain ⟨R, hR⟩ : ∃ R, roomOf l (i, f) = R := ⟨_, rfl⟩
  rw [hR]
  unfold roomOf at hR
  simp only [List.getElem?_eq_getElem hi] at hR
  generalize l[i] = a at *
  obtain ⟨fr, to, lo, hi', fl⟩ := a
  obtain ⟨s1, s2, s3, s4, s5, s6⟩ := hsm
  dsimp only at *
  have hl' := Lib.hid hl
  have HR := Lib.hid hR
  clear hR
  clear h hs
  go_enter Tryz.func85, Tryz.ntmps85
  cases f
  all_goals
    go_wp2
    go_region
    go_wp2
    go_ret
    refine Ret.mk (by rw [← HR.out]; rfl) ?_
    repeat (first | exact Below.refl _ _ | exact Below.refl _ _ | refine Below.setCell ?_ (by first | (dsimp only; omega) | (simp; done) | (simp; omega)) _ | refine Below.alloc ?_ (by first | omega | (simp; done) | (simp; omega)) _ | refine Below.drew ?_)
end Go.Proofs.YtflchbejjofppaaGreatDoor
/- Walks: the iterator of a network's steps. -/
namespace Go.Proofs.YtflchbejjofppaaGreatDoor
open Go Go.Proofs Go.RowKit Go.Shelf
attribute [local go_sem] Oper.semAt_some
def stepAt (l : List Ac) (u : Nat) (wo : Int) (i : Nat) : Option (St × Nat) :=
  match l[i]? with
  | none => none
  | some a =>
    let f := decide (a.fr = u)
    if (i : Int) = wo ∨ (a.fr ≠ u ∧ a.to ≠ u) ∨ roomOf l (i, f) ≤ 0 then none else some ((i, f), if f then a.to else a.fr)
def stepsTo (l : List Ac) (u : Nat) (wo : Int) (k : Nat) : List (St × Nat) := (List.range k).filterMap (stepAt l u wo)
theorem stepsTo_succ (l : List Ac) (u : Nat) (wo : Int) (k : Nat) : stepsTo l u wo (k + 1) = stepsTo l u wo k ++ (stepAt l u wo k).toList := by
  unfold stepsTo
  rw [List.range_succ, List.filterMap_append]
  congr 1
theorem stepsTo_len (l : List Ac) (u : Nat) (wo : Int) (k : Nat) : (stepsTo l u wo k).length ≤ k := by
  have := List.length_filterMap_le (stepAt l u wo) (List.range k); simpa [stepsTo] using this
theorem stepsTo_pre (l : List Ac) (u : Nat) (wo : Int) {k n : Nat} (h : k ≤ n) : stepsTo l u wo k <+: stepsTo l u wo n := by
  induction n with
  | zero => obtain rfl : k = 0 := by omega
            exact List.prefix_refl _
  | succ n ih =>
    by_cases e : k = n + 1
    · subst e; exact List.prefix_refl _
    · exact (ih (by omega)).trans (by rw [stepsTo_succ]; exact List.prefix_append _ _)
def encSt (x : St × Nat) : Array Value := #[.agg #[.int .i64 x.1.1, .bool x.1.2], .int .i64 x.2]
set_option maxHeartbeats 400000 in
theorem steps96 (nb u : Nat) (wo : Int) (w : World) :
    Calls Tryz.prog 84 #[.pointer (some ⟨nb, 0, none⟩), .int .i64 u, .int .i64 wo] w fun e w' =>
      e = .returned (.func (.func 113) #[] #[.pointer (some ⟨w.heap.size, 0, none⟩), .pointer (some ⟨w.heap.size + 1, 0, none⟩), .pointer (some ⟨w.heap.size + 1 + 1, 0, none⟩)]) ∧
      ((w.alloc (.cells #[.pointer (some ⟨nb, 0, none⟩)] 66)).alloc (.cells #[.int .i64 u] 3)).alloc (.cells #[.int .i64 wo] 3) = w' := by
  go_enter Tryz.func84, Tryz.ntmps84
  go_wp2
  go_ret
  exact ⟨rfl, rfl⟩
structure ItR (w : World) (p B nb : Nat) (v : Value) (l : List Ac) (u : Nat) (wo : Int) : Prop where
  b1 : Box w p 66 [.pointer (some ⟨nb, 0, none⟩)]
  b2 : Box w (p + 1) 3 [.int .i64 u]
  b3 : Box w (p + 1 + 1) 3 [.int .i64 wo]
  net : NetA w B nb v l
theorem ItR.later {w w' : World} {p B nb : Nat} {v : Value} {l : List Ac} {u : Nat} {wo : Int} (h : ItR w p B nb v l u wo) (hb : Below w.heap.size w w') : ItR w' p B nb v l u wo :=
  ⟨h.b1.later hb, h.b2.later hb, h.b3.later hb, h.net.later hb⟩
structure KpS (p B nb : Nat) (v : Value) (l : List Ac) (u : Nat) (wo : Int) (w w' : World) : Prop where
  it : ItR w p B nb v l u wo → ItR w' p B nb v l u wo
  size : w.heap.size ≤ w'.heap.size
theorem KpS.t {p B nb : Nat} {v : Value} {l : List Ac} {u : Nat} {wo : Int} {x y z : World} (h : KpS p B nb v l u wo x y) (k : KpS p B nb v l u wo y z) : KpS p B nb v l u wo x z :=
  ⟨fun i => k.it (h.it i), Nat.le_trans h.size k.size⟩
set_option maxRecDepth 100000 in
set_option maxHeartbeats 1000000 in
theorem steps99 (n : Nat) (hn : 2 ≤ n) (p B nb : Nat) (v : Value) (l : List Ac) (u : Nat) (wo : Int) (hl : l.length ≤ 1000) (hs : Small l 1000000000000) (lp : Nat) (J Jx : List (St × Nat) → World → Prop) (W : World) (hit : ItR W p B nb v l u wo)
    (hJ : AbidesFrom W.heap.size J)
    (hY : ∀ pre x W1, x ∈ stepsTo l u wo l.length → J pre W1 → pre.length < 1000 → YieldAt Fence.wide (n - 1) Tryz.prog lp (encSt x) W1 fun e W' =>
      (e = .returned (.bool true) ∧ J (pre ++ [x]) W' ∧ KpS p B nb v l u wo W1 W') ∨ (e = .returned (.bool false) ∧ Jx (pre ++ [x]) W'))
    (h0 : J [] W) :
    CallsIn Fence.wide n Tryz.prog 113 (#[.func (.yield lp) #[] #[]] ++ #[.pointer (some ⟨p, 0, none⟩), .pointer (some ⟨p + 1, 0, none⟩), .pointer (some ⟨p + 1 + 1, 0, none⟩)]) W fun e W' => (∃ v, e = .returned v) ∧
      ((∃ xs, xs = stepsTo l u wo l.length ∧ J xs W') ∨ (∃ pre, pre <+: stepsTo l u wo l.length ∧ Jx pre W')) := by
  have h1 : 1 ≤ n := by omega
  refine callsIn_of_wp Tryz.func113 rfl trivial ?_ rfl
  simp only [Tryz.ntmps113, List.size_toArray, List.length_cons, List.length_nil, Nat.reduceAdd, Nat.reduceSub, Array.replicate_succ, Array.replicate_zero, List.push_toArray, List.append_toArray, List.nil_append, List.cons_append]
  have d1 := hit.b1.cell 0
  have z1 := hit.b1.lt
  simp only [List.getElem?_cons_zero] at d1
  have c0 := hit.net.c0
  have z0 := hit.net.lt
  obtain ⟨va, cap, rfl⟩ := hit.net.own.shape
  have HIT := Lib.hid hit
  clear hit
  gi_wp2
  gi_loopw [14] (fun j wr => ∃ k : Nat, k ≤ l.length ∧ j = .int .i64 k ∧ J (stepsTo l u wo k) wr ∧ ItR wr p B nb (.slice va l.length cap) l u wo) (fun j _ => l.length - (intOf j).toNat)
  case atStart => exact ⟨0, by omega, rfl, h0, HIT.out⟩
  case round =>
    obtain ⟨k, hk, rfl, hJk, hit⟩ := hrel
    by_cases hlt : k < l.length
    · obtain ⟨g, cap', e1, hg, hgs⟩ := hit.net.own.form (by omega)
      cases e1
      obtain ⟨e0, e1, e2, e3, e4⟩ := (hit.net.own.at Ac.encW_len k hlt).c5
      have y1 := hit.b1.cell 0
      have y2 := hit.b2.cell 0
      have y3 := hit.b3.cell 0
      have y4 := hit.b1.lt
      have y5 := hit.b2.lt
      have y6 := hit.b3.lt
      simp only [List.getElem?_cons_zero] at y1 y2 y3
      have HC : Hid (∀ (w' : World) (f : Bool), Below wr.heap.size wr w' → Calls Tryz.prog 85 #[.pointer (some ⟨nb, 0, none⟩), .agg #[.int .i64 k, .bool f]] w' (Ret (.int .i64 (roomOf l (k, f))) w')) := Lib.hid (fun w' f hb => room97 w' B nb _ l k f (hit.net.later hb) hlt hl hs)
      have HS := Lib.hid (stepsTo_succ l u wo k)
      have HPL := Lib.hid (stepsTo_len l u wo k)
      have HPX := Lib.hid (stepsTo_pre l u wo (show k + 1 ≤ l.length by omega))
      obtain ⟨o, ho⟩ : ∃ o, stepAt l u wo k = o := ⟨_, rfl⟩
      rw [ho] at HS
      have HO : Hid (o = if (k : Int) = wo ∨ (l[k].fr ≠ u ∧ l[k].to ≠ u) ∨ roomOf l (k, decide (l[k].fr = u)) ≤ 0 then none else some ((k, decide (l[k].fr = u)), if decide (l[k].fr = u) then l[k].to else l[k].fr)) := by
        rw [← ho]; unfold stepAt; rw [List.getElem?_eq_getElem hlt]; exact Lib.hid rfl
      clear ho
      have HJ := Lib.hid hJk
      have HY := Lib.hid (fun x wr' hx h => hY (stepsTo l u wo k) x wr' hx h (by have := HPL.out; omega))
      have HIT2 := Lib.hid hit
      clear hit hJk
      generalize l[k] = a at *
      obtain ⟨fr, to, lo, hi', fl⟩ := a
      dsimp only at *
      by_cases q : fr = u
      · have q1 : ((fr : Int) == (u : Int)) = true := beq_iff_eq.2 (by omega)
        have q2 : ((fr : Int) != (u : Int)) = false := by rw [q]; simp
        simp only [decide_eq_true q] at HO
        have HQ := Lib.hid q
        clear q
        have hB := Lib.hid (((Below.refl wr.heap.size wr).alloc (Nat.le_refl _) (.cells #[.int .i64 lo, .int .i64 hi', .int .i64 fr, .int .i64 to, .int .i64 fl] 92)).alloc (by simp) (.cells #[.int .i64 k, .bool true] 133))
        by_cases hw : (k : Int) = wo
        · have q3 : ((k : Int) == wo) = true := beq_iff_eq.2 hw
          rw [if_pos (Or.inl hw)] at HO
          have HW := Lib.hid hw
          clear hw
          gi_wp2
          refine ⟨trivial, ?_⟩
          gi_wp2
          go_roundw
          case rel =>
            have hbz := hB.out
            refine ⟨k + 1, by omega, by go_num, ?_, HIT2.out.later hbz⟩
            rw [HS.out, HO.out]
            simp only [Option.toList_none, List.append_nil]
            exact hJ _ _ _ none HJ.out ⟨hbz.os, hbz.tape, hbz.output, hbz.size, fun k hk _ => hbz.block k hk⟩ (fun r e => by cases e)
          case measure => simp [intOf]; omega
        have q3 : ((k : Int) == wo) = false := beq_eq_false_iff_ne.2 hw
        have HW := Lib.hid hw
        clear hw
        have HC2 := Lib.hid (HC.out _ true hB.out)
        obtain ⟨R, hR⟩ : ∃ R, roomOf l (k, true) = R := ⟨_, rfl⟩
        rw [hR] at HC2 HO
        clear hR HC
        by_cases hR0 : R ≤ 0
        · rw [if_pos (Or.inr (Or.inr hR0))] at HO
          gi_wp2
          refine ⟨trivial, ?_⟩
          refine (callsIn_wide.2 HC2.out).mono ?_
          rintro e w3 ⟨rfl, hb3⟩
          gi_wp2
          go_roundw
          case rel =>
            have hbz := hB.out.trans (hb3.mono hB.out.size)
            refine ⟨k + 1, by omega, by go_num, ?_, HIT2.out.later hbz⟩
            rw [HS.out, HO.out]
            simp only [Option.toList_none, List.append_nil]
            exact hJ _ _ _ none HJ.out ⟨hbz.os, hbz.tape, hbz.output, hbz.size, fun k hk _ => hbz.block k hk⟩ (fun r e => by cases e)
          case measure => simp [intOf]; omega
        · rw [if_neg (by intro hor; rcases hor with h | h | h; exact HW.out h; exact h.1 HQ.out; exact hR0 h)] at HO
          gi_wp2
          refine ⟨trivial, ?_⟩
          refine (callsIn_wide.2 HC2.out).mono ?_
          rintro e w3 ⟨rfl, hb3⟩
          have hbz := Lib.hid (hB.out.trans (hb3.mono hB.out.size))
          have hJ3 : J (stepsTo l u wo k) w3 := hJ _ _ _ none HJ.out ⟨hbz.out.os, hbz.out.tape, hbz.out.output, hbz.out.size, fun k hk _ => hbz.out.block k hk⟩ (fun r e => by cases e)
          obtain ⟨fn, tmps, assign, body, hy, hRR⟩ := HY.out ((k, true), to) _ (HPX.out.subset (by rw [HS.out, HO.out]; simp)) hJ3
          dsimp only [encSt] at hy
          have hbx := (Box.newAt (wr.alloc (.cells #[.int .i64 lo, .int .i64 hi', .int .i64 fr, .int .i64 to, .int .i64 fl] 92)) #[.int .i64 k, .bool true] 133 (by simp : _ = wr.heap.size + 1)).later hb3
          have x0 := hbx.cell 0
          have x1 := hbx.cell 1
          have x2 := hbx.lt
          simp only [List.getElem?_cons_zero, List.getElem?_cons_succ] at x0 x1
          have HJ3 := Lib.hid hJ3
          clear hJ3
          gi_wp2
          refine hRR.mono ?_
          rintro e W3 (⟨rfl, hJ4, hk4⟩ | ⟨rfl, hJx4⟩)
          · gi_wp2
            go_roundw
            case rel =>
              refine ⟨k + 1, by omega, by go_num, ?_, hk4.it (HIT2.out.later hbz.out)⟩
              rw [HS.out, HO.out]
              exact hJ4
            case measure => simp [intOf]; omega
          · gi_wp2
            refine bodyPost_ret (results_none rfl _ _ _) rfl ?_
            refine ⟨⟨_, rfl⟩, .inr ⟨_, ?_, hJx4⟩⟩
            have h := HPX.out
            rw [HS.out, HO.out] at h
            exact h
      · have q1 : ((fr : Int) == (u : Int)) = false := beq_eq_false_iff_ne.2 (by omega)
        have q2 : ((fr : Int) != (u : Int)) = true := by rw [bne_iff_ne]; omega
        simp only [decide_eq_false q] at HO
        have HQ := Lib.hid q
        clear q
        have hB := Lib.hid (((Below.refl wr.heap.size wr).alloc (Nat.le_refl _) (.cells #[.int .i64 lo, .int .i64 hi', .int .i64 fr, .int .i64 to, .int .i64 fl] 92)).alloc (by simp) (.cells #[.int .i64 k, .bool false] 133))
        by_cases hw : (k : Int) = wo
        · have q3 : ((k : Int) == wo) = true := beq_iff_eq.2 hw
          rw [if_pos (Or.inl hw)] at HO
          have HW := Lib.hid hw
          clear hw
          gi_wp2
          refine ⟨trivial, ?_⟩
          gi_wp2
          go_roundw
          case rel =>
            have hbz := hB.out
            refine ⟨k + 1, by omega, by go_num, ?_, HIT2.out.later hbz⟩
            rw [HS.out, HO.out]
            simp only [Option.toList_none, List.append_nil]
            exact hJ _ _ _ none HJ.out ⟨hbz.os, hbz.tape, hbz.output, hbz.size, fun k hk _ => hbz.block k hk⟩ (fun r e => by cases e)
          case measure => simp [intOf]; omega
        have q3 : ((k : Int) == wo) = false := beq_eq_false_iff_ne.2 hw
        have HW := Lib.hid hw
        clear hw
        by_cases ht : to = u
        rotate_left
        · have q4 : ((to : Int) != (u : Int)) = true := by rw [bne_iff_ne]; omega
          rw [if_pos (Or.inr (Or.inl ⟨HQ.out, ht⟩))] at HO
          have HT := Lib.hid ht
          clear ht
          gi_wp2
          refine ⟨trivial, ?_⟩
          gi_wp2
          go_roundw
          case rel =>
            have hbz := hB.out
            refine ⟨k + 1, by omega, by go_num, ?_, HIT2.out.later hbz⟩
            rw [HS.out, HO.out]
            simp only [Option.toList_none, List.append_nil]
            exact hJ _ _ _ none HJ.out ⟨hbz.os, hbz.tape, hbz.output, hbz.size, fun k hk _ => hbz.block k hk⟩ (fun r e => by cases e)
          case measure => simp [intOf]; omega
        have q4 : ((to : Int) != (u : Int)) = false := by rw [ht]; simp
        have HT := Lib.hid ht
        clear ht
        have HC2 := Lib.hid (HC.out _ false hB.out)
        obtain ⟨R, hR⟩ : ∃ R, roomOf l (k, false) = R := ⟨_, rfl⟩
        rw [hR] at HC2 HO
        clear hR HC
        by_cases hR0 : R ≤ 0
        · rw [if_pos (Or.inr (Or.inr hR0))] at HO
          gi_wp2
          refine ⟨trivial, ?_⟩
          refine (callsIn_wide.2 HC2.out).mono ?_
          rintro e w3 ⟨rfl, hb3⟩
          gi_wp2
          go_roundw
          case rel =>
            have hbz := hB.out.trans (hb3.mono hB.out.size)
            refine ⟨k + 1, by omega, by go_num, ?_, HIT2.out.later hbz⟩
            rw [HS.out, HO.out]
            simp only [Option.toList_none, List.append_nil]
            exact hJ _ _ _ none HJ.out ⟨hbz.os, hbz.tape, hbz.output, hbz.size, fun k hk _ => hbz.block k hk⟩ (fun r e => by cases e)
          case measure => simp [intOf]; omega
        · rw [if_neg (by intro hor; rcases hor with h | h | h; exact HW.out h; exact h.2 HT.out; exact hR0 h)] at HO
          gi_wp2
          refine ⟨trivial, ?_⟩
          refine (callsIn_wide.2 HC2.out).mono ?_
          rintro e w3 ⟨rfl, hb3⟩
          have hbz := Lib.hid (hB.out.trans (hb3.mono hB.out.size))
          have hJ3 : J (stepsTo l u wo k) w3 := hJ _ _ _ none HJ.out ⟨hbz.out.os, hbz.out.tape, hbz.out.output, hbz.out.size, fun k hk _ => hbz.out.block k hk⟩ (fun r e => by cases e)
          obtain ⟨fn, tmps, assign, body, hy, hRR⟩ := HY.out ((k, false), fr) _ (HPX.out.subset (by rw [HS.out, HO.out]; simp)) hJ3
          dsimp only [encSt] at hy
          have hbx := (Box.newAt (wr.alloc (.cells #[.int .i64 lo, .int .i64 hi', .int .i64 fr, .int .i64 to, .int .i64 fl] 92)) #[.int .i64 k, .bool false] 133 (by simp : _ = wr.heap.size + 1)).later hb3
          have x0 := hbx.cell 0
          have x1 := hbx.cell 1
          have x2 := hbx.lt
          simp only [List.getElem?_cons_zero, List.getElem?_cons_succ] at x0 x1
          have HJ3 := Lib.hid hJ3
          clear hJ3
          gi_wp2
          refine hRR.mono ?_
          rintro e W3 (⟨rfl, hJ4, hk4⟩ | ⟨rfl, hJx4⟩)
          · gi_wp2
            go_roundw
            case rel =>
              refine ⟨k + 1, by omega, by go_num, ?_, hk4.it (HIT2.out.later hbz.out)⟩
              rw [HS.out, HO.out]
              exact hJ4
            case measure => simp [intOf]; omega
          · gi_wp2
            refine bodyPost_ret (results_none rfl _ _ _) rfl ?_
            refine ⟨⟨_, rfl⟩, .inr ⟨_, ?_, hJx4⟩⟩
            have h := HPX.out
            rw [HS.out, HO.out] at h
            exact h
    · obtain rfl : l.length = k := by omega
      gi_wp2
      go_end0
      exact ⟨⟨_, rfl⟩, .inl ⟨_, rfl, hJk⟩⟩
structure GoodSt (l : List Ac) (u : Nat) (wo : Int) (x : St × Nat) : Prop where
  lt : x.1.1 < l.length
  ne : (x.1.1 : Int) ≠ wo
  hd : headOf l x.1 = x.2
  tl : tailOf l x.1 = u
  rm : 0 < roomOf l x.1
theorem stepsTo_good {l : List Ac} {u : Nat} {wo : Int} {k : Nat} {x : St × Nat} (h : x ∈ stepsTo l u wo k) : GoodSt l u wo x := by
  obtain ⟨i, hi, e⟩ := List.mem_filterMap.1 h
  unfold stepAt at e
  cases ha : l[i]? with
  | none => rw [ha] at e; cases e
  | some a =>
    rw [ha] at e
    dsimp only at e
    split at e
    · cases e
    · rename_i hn
      have hn1 : ¬ (i : Int) = wo := fun h => hn (.inl h)
      have hn2 : ¬ (a.fr ≠ u ∧ a.to ≠ u) := fun h => hn (.inr (.inl h))
      have hn3 : ¬ roomOf l (i, decide (a.fr = u)) ≤ 0 := fun h => hn (.inr (.inr h))
      cases e
      refine ⟨(List.getElem?_eq_some_iff.1 ha).1, hn1, ?_, ?_, Int.not_le.1 hn3⟩
      · unfold headOf; rw [ha]
      · unfold tailOf; rw [ha]
        by_cases q : a.fr = u
        · simp [q]
        · have : a.to = u := Decidable.byContradiction fun h => hn2 ⟨q, h⟩
          simp [q, this]
theorem stepsTo_mem {l : List Ac} {u : Nat} {wo : Int} {j : Nat} (hj : j < l.length) (hw : (j : Int) ≠ wo) :
    (l[j].fr = u → l[j].fl < l[j].hi → ((j, true), l[j].to) ∈ stepsTo l u wo l.length) ∧ (l[j].to = u → l[j].fr ≠ u → l[j].lo < l[j].fl → ((j, false), l[j].fr) ∈ stepsTo l u wo l.length) := by
  have hr : roomOf l (j, true) = l[j].hi - l[j].fl ∧ roomOf l (j, false) = l[j].fl - l[j].lo := by
    unfold roomOf; simp [List.getElem?_eq_getElem hj]
  constructor
  · intro h1 h2
    refine List.mem_filterMap.2 ⟨j, by simpa using hj, ?_⟩
    unfold stepAt
    rw [List.getElem?_eq_getElem hj]
    dsimp only
    rw [decide_eq_true h1, if_neg ?_]
    · simp
    · rintro (h | h | h)
      · exact hw h
      · exact h.1 h1
      · rw [hr.1] at h; omega
  · intro h1 h0 h2
    refine List.mem_filterMap.2 ⟨j, by simpa using hj, ?_⟩
    unfold stepAt
    rw [List.getElem?_eq_getElem hj]
    dsimp only
    rw [decide_eq_false h0, if_neg ?_]
    · simp
    · rintro (h | h | h)
      · exact hw h
      · exact h.2 h1
      · rw [hr.2] at h; omega
abbrev Sty (l : List Ac) (u : Nat) (wo : Int) := { x : St × Nat // GoodSt l u wo x }
theorem steps_stops (n : Nat) (hn : 2 ≤ n) (p B nb : Nat) (v : Value) (l : List Ac) (u : Nat) (wo : Int) (hl : l.length ≤ 1000) (hs : Small l 1000000000000) (w : World) (hit : ItR w p B nb v l u wo) :
    SeqStopsK Fence.wide n Tryz.prog 113 #[.pointer (some ⟨p, 0, none⟩), .pointer (some ⟨p + 1, 0, none⟩), .pointer (some ⟨p + 1 + 1, 0, none⟩)] (fun x : Sty l u wo => encSt x.1) (KpS p B nb v l u wo)
      (fun ys => ys.map Subtype.val = stepsTo l u wo l.length) (fun _ => True) 1000 w := fun lp J Jx W hW hJ hJx hY h0 => by
  refine (steps99 n hn p B nb v l u wo hl hs lp (fun xs W => ∃ pre : List (Sty l u wo), pre.map Subtype.val = xs ∧ J pre W) (fun xs W => ∃ pre : List (Sty l u wo), pre.map Subtype.val = xs ∧ Jx pre W) W (hit.later hW)
    (fun s A B' row ⟨pre, h1, h2⟩ hg hr => ⟨pre, h1, hJ _ _ _ _ h2 hg hr⟩) ?_ ⟨[], rfl, h0⟩).mono ?_
  · rintro _ x W1 hx ⟨pre, rfl, hp⟩ hlen
    obtain ⟨fn, tmps, assign, body, hy, hR⟩ := hY pre ⟨x, stepsTo_good hx⟩ W1 hp (by simpa using hlen)
    refine ⟨fn, tmps, assign, body, hy, hR.mono ?_⟩
    rintro e W' (⟨rfl, h1, h2⟩ | ⟨rfl, h1⟩)
    · exact .inl ⟨rfl, ⟨_, by simp, h1⟩, h2⟩
    · exact .inr ⟨rfl, _, by simp, h1⟩
  · rintro e W' ⟨hv, (⟨xs, hS, pre, hp, hj⟩ | ⟨_, _, pre, _, hj⟩)⟩
    · exact ⟨hv, .inl ⟨pre, hp.trans hS, hj⟩⟩
    · exact ⟨hv, .inr ⟨pre, trivial, hj⟩⟩
end Go.Proofs.YtflchbejjofppaaGreatDoor
