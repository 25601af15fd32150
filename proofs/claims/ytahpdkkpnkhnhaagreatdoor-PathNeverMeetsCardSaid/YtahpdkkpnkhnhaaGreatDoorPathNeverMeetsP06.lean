/- Lemmas on the way to the law PathNeverMeets (part 6): Nd Rf Ne Oa Oc Sa Sb Ob Me -/
import Derived.Test.YtahpdkkpnkhnhaaGreatDoorPathNeverMeetsP05
import Derived.Test.YtahpdkkpnkhnhaaGreatDoorLib02
import Derived.Test.YtahpdkkpnkhnhaaGreatDoorLib16
import Derived.Test.YtahpdkkpnkhnhaaGreatDoorPathNeverMeetsP03
import Derived.Test.YtahpdkkpnkhnhaaGreatDoorPathNeverMeetsP04
set_option linter.unusedVariables false
set_option linter.unusedSimpArgs false

/- Plain: what a command may change; two paths that are set have no machine in common. -/
namespace Go.Proofs.YtahpdkkpnkhnhaaGreatDoor
open Go Go.Proofs Go.RowKit Go.Shelf
/-- What a command of kind kd, on path l with grain g, may do to machine m. -/
structure StepOk (p : Pl) (st S : List Sx) (l : List Int) (g : ByteArray) (kd : Nat) (m : Nat) : Prop where
  on : (sAt S m).grain.toList ≠ (sAt st m).grain.toList → (m : Int) ∈ l
  emp : (sAt S m).grain.toList ≠ (sAt st m).grain.toList → (sAt st m).grain.toList = [] → kd = 0 ∧ (sAt S m).grain.toList = g.toList
  full : (sAt S m).grain.toList ≠ (sAt st m).grain.toList → (sAt st m).grain.toList ≠ [] → (sAt S m).grain.toList = [] ∧ kd = 2 ∧ cvB (kdA p m) = true
  all : eqX (sAt S m) (sAt st m) = true ∨ (m : Int) ∈ l ∨ (kd = 3 ∧ (m : Int) ∈ upL st (l.getD 1 0) st.length)
/-- A state in which no machine but a conveyor is fed and feeds. -/
def OneW (p : Pl) (st : List Sx) : Prop := ∀ x y : Nat, x < p.ms.length → (sAt st x).feeds = (y : Int) → cvB (kdA p y) = false → (sAt st y).feeds < 0
theorem eqX_self (a : Sx) : eqX a a = true := eqX_of rfl rfl rfl
section
variable {p : Pl} {st S : List Sx} {l : List Int} {g g' : ByteArray} {cl : Bool}
theorem PaV.mem (hl : PaV p l) {x : Nat} : (x : Int) ∈ l ↔ ∃ k, k < l.length ∧ nAt l k = x := by
  constructor
  · intro h
    obtain ⟨k, hk, e⟩ := mem_getD h
    exact ⟨k, hk, by unfold nAt; omega⟩
  · rintro ⟨k, hk, e⟩
    have := getD_mem hk
    rw [(hl.nat hk).1] at this
    subst e; exact this
theorem StepOk.off (hl : PaV p l) {m : Nat} (kd : Nat) (h : ¬ (m : Int) ∈ l → sAt S m = sAt st m) (hg : (m : Int) ∈ l → (sAt S m).grain.toList ≠ (sAt st m).grain.toList → ((sAt st m).grain.toList = [] → kd = 0 ∧ (sAt S m).grain.toList = g.toList) ∧ ((sAt st m).grain.toList ≠ [] → (sAt S m).grain.toList = [] ∧ kd = 2 ∧ cvB (kdA p m) = true)) : StepOk p st S l g kd m := by
  by_cases hm : (m : Int) ∈ l
  · exact ⟨fun _ => hm, fun h1 => (hg hm h1).1, fun h1 => (hg hm h1).2, .inr (.inl hm)⟩
  · have e := h hm
    exact ⟨fun h1 => absurd (by rw [e]) h1, fun h1 => absurd (by rw [e]) h1, fun h1 => absurd (by rw [e]) h1, .inl (by rw [e]; exact eqX_self _)⟩
theorem notin (hl : PaV p l) {m : Nat} (h : ¬ (m : Int) ∈ l) : ∀ k, k < l.length → nAt l k ≠ m := fun k hk e => h (hl.mem.2 ⟨k, hk, e⟩)
theorem StartV.step (A : StartV p st S l g) (hl : PaV p l) (hs : ∀ k, k < l.length → StK p st g k (nAt l k)) (m : Nat) : StepOk p st S l g 0 m := by
  refine .off hl 0 (fun h => A.off m (notin hl h)) fun h hne => ?_
  obtain ⟨k, hk, rfl⟩ := hl.mem.1 h
  have e := A.grain k hk
  rw [e] at hne ⊢
  cases hp : kpB (kdA p (nAt l k : Nat)) with
  | false => rw [hp] at hne; exact absurd rfl hne
  | true =>
    rw [hp] at hne
    refine ⟨fun _ => ⟨rfl, rfl⟩, fun h1 => ?_⟩
    rcases (hs k hk).gr with h2 | h2
    · exact absurd (List.isEmpty_iff.1 h2) h1
    · exact absurd h2.symm hne
theorem StopV.step (A : StopV p st S l cl) (hl : PaV p l) (m : Nat) : StepOk p st S l g (if cl then 2 else 1) m := by
  refine .off hl _ (fun h => A.off m (notin hl h)) fun h hne => ?_
  obtain ⟨k, hk, rfl⟩ := hl.mem.1 h
  have e := A.grain k hk
  rw [e] at hne ⊢
  cases cl with
  | false => rw [Bool.and_false] at hne; exact absurd rfl hne
  | true =>
    rw [Bool.and_true] at hne ⊢
    cases hp : cvB (kdA p (nAt l k : Nat)) with
    | false => rw [hp] at hne; exact absurd rfl hne
    | true =>
      have e0 : (if true = true then (⟨#[]⟩ : ByteArray) else (sAt st (nAt l k)).grain).toList = [] := noB_list
      rw [hp, e0] at hne
      rw [e0]
      exact ⟨fun h1 => absurd h1.symm hne, fun _ => ⟨rfl, rfl, rfl⟩⟩
theorem ResV.step (A : ResV p st S l) (hl : PaV p l) (m : Nat) : StepOk p st S l g 4 m :=
  .off hl _ (fun h => A.off m (notin hl h)) fun _ hne => absurd (by rw [A.grain]) hne
theorem FltV.step (A : FltV st S (nAt l 1)) (hl : PaV p l) {m : Nat} (hm : m < st.length) : StepOk p st S l g 3 m := by
  have e := (A.feeds hm).2.1
  refine ⟨fun h1 => absurd (by rw [e]) h1, fun h1 => absurd (by rw [e]) h1, fun h1 => absurd (by rw [e]) h1, ?_⟩
  by_cases h : m = nAt l 1 ∨ UpR st (nAt l 1 : Nat) m
  · rcases h with h | h
    · exact .inr (.inl (hl.mem.2 ⟨1, by have := hl.two; omega, h.symm⟩))
    · refine .inr (.inr ⟨rfl, ?_⟩)
      rw [(hl.nat (by have := hl.two; omega : 1 < l.length)).1]
      exact mem_upL.2 ⟨hm, h⟩
  · rw [A.off m h]; exact .inl (eqX_self _)
theorem StartV.one (A : StartV p st S l g) (hok : OkP p) (h : StV p st) (hl : PaV p l) (hs : ∀ k, k < l.length → StK p st g k (nAt l k)) (ho : OneW p st) : OneW p S := by
  intro x y hx hf hc
  rcases A.to hok h hl hs hx hf with ⟨k, hk, e1, e2⟩ | ⟨a1, a2, a3⟩
  · by_cases hk1 : k + 1 + 1 = l.length
    · rw [e2, A.fend _ hk1]; omega
    · have := hl.inner (k + 1) (by omega) (by omega)
      rw [(hl.nat hk).1] at this
      rw [e2] at hc
      unfold nAt at hc
      rw [hc] at this; cases this
  · rw [A.off y a2]; exact ho x y hx a3 hc
theorem StopV.one (A : StopV p st S l cl) (h : StV p st) (hl : PaV p l) (hs : ∀ k, k + 1 < l.length → (sAt st (nAt l k)).feeds = (nAt l (k + 1) : Nat)) (ho : OneW p st) : OneW p S := by
  intro x y hx hf hc
  have h1 := ho x y hx (A.to h hl hs hx hf).1 hc
  rcases hl.cases y with ⟨k, hk, rfl⟩ | hy0
  · by_cases hk1 : k + 1 < l.length
    · have := A.feeds k hk1; unfold nAt at this; omega
    · have := A.fend k (by omega); unfold nAt at this; omega
  · rw [A.off y hy0]; exact h1
theorem ResV.one (A : ResV p st S l) (ho : OneW p st) : OneW p S := by
  intro x y hx hf hc
  rw [A.feeds] at hf ⊢
  exact ho x y hx hf hc
theorem FltV.one {m : Nat} (A : FltV st S m) (hok : OkP p) (h : StV p st) (ho : OneW p st) : OneW p S := by
  intro x y hx hf hc
  have hl := h.len
  rw [(A.feeds (by omega)).1] at hf
  have hy := h.at_ hok hx hf
  rw [(A.feeds (by omega)).1]
  exact ho x y hx hf hc
end
theorem emp_at (n x : Nat) (hx : x < n) : sAt (emptyS n) x = ⟨false, -1, ⟨#[]⟩⟩ := by
  unfold sAt emptyS
  rw [List.getD_eq_getElem?_getD, List.getElem?_replicate, if_pos hx]; rfl
theorem emp_valid (p : Pl) : StV p (emptyS p.ms.length) ∧ OneW p (emptyS p.ms.length) := by
  have e := emp_at p.ms.length
  refine ⟨⟨List.length_replicate, fun x hx h => ?_, fun x hx => ?_, fun x hx h => ?_, fun x hx _ => ?_, fun x y hx hy h => ?_, fun x y hx h => ?_, fun x y hx h => ?_, fun x y hx h => ?_, fun x y hx h => ?_⟩, fun x y hx h => ?_⟩
  · rw [e x hx] at h; cases h
  · rw [e x hx]; exact .inl rfl
  · rw [e x hx] at h
    have h' : (⟨#[]⟩ : ByteArray).toList.isEmpty = false := h
    rw [noB_list] at h'; cases h'
  · rw [e x hx]
  all_goals
    rw [e x hx] at h
    dsimp only at h
    omega
/-- Two paths that are set: the same, or no machine in common. -/
theorem set_apart {p : Pl} {st : List Sx} {a b : List Int} (h : StV p st) (ho : OneW p st) (ha : PaV p a) (hb : PaV p b) (sa : setB st a = true) (sb : setB st b = true) {y : Int} (hy : y ∈ a) (hy' : y ∈ b) : a = b := by
  have fa := (setB_at ha).1 sa
  have fb := (setB_at hb).1 sb
  have first : ∀ {a b : List Int}, PaV p a → PaV p b → (∀ k, k + 1 < a.length → (sAt st (nAt a k)).feeds = (nAt a (k + 1) : Nat)) → (∀ k, k + 1 < b.length → (sAt st (nAt b k)).feeds = (nAt b (k + 1) : Nat)) → ∀ j, j < b.length → nAt a 0 = nAt b j → j = 0 := by
    intro a b ha hb fa fb j hj e
    refine Decidable.byContradiction fun h0 => ?_
    have h1 := fb (j - 1) (by omega)
    rw [show j - 1 + 1 = j by omega, ← e] at h1
    have h2 := ha.fst
    rw [(ha.nat (by have := ha.two; omega : 0 < a.length)).1] at h2
    have h3 := ho _ _ (hb.nat (by omega : j - 1 < b.length)).2 h1 h2
    rw [fa 0 (by have := ha.two; omega)] at h3
    omega
  have back : ∀ i j, i < a.length → j < b.length → nAt a i = nAt b j → i = j ∧ ∀ k, k ≤ i → nAt a k = nAt b k := by
    intro i
    induction i with
    | zero =>
      intro j _ hj e
      have := first ha hb fa fb j hj e
      subst this
      exact ⟨rfl, fun k hk => by have : k = 0 := by omega
                                 subst this; exact e⟩
    | succ i ih =>
      intro j hi hj e
      by_cases h0 : j = 0
      · subst h0
        have := first hb ha fb fa (i + 1) hi e.symm
        omega
      · have h1 := fb (j - 1) (by omega)
        rw [show j - 1 + 1 = j by omega, ← e] at h1
        have h2 := fa i hi
        have h3 := h.uq _ _ (ha.nat (by omega : i < a.length)).2 (hb.nat (by omega : j - 1 < b.length)).2 (by unfold nAt at h2; omega) (h2.trans h1.symm)
        obtain ⟨h4, h5⟩ := ih (j - 1) (by omega) (by omega) h3
        have hj1 : j = i + 1 := by omega
        subst hj1
        refine ⟨rfl, fun k hk => ?_⟩
        by_cases hki : k = i + 1
        · subst hki; exact e
        · exact h5 k (by omega)
  obtain ⟨i, hi, e1⟩ := mem_getD hy
  obtain ⟨j, hj, e2⟩ := mem_getD hy'
  have h0 : nAt a 0 = nAt b 0 := (back i j hi hj (by unfold nAt; rw [e1, e2])).2 0 (by omega)
  have fwd : ∀ {a b : List Int}, PaV p a → PaV p b → (∀ k, k + 1 < a.length → (sAt st (nAt a k)).feeds = (nAt a (k + 1) : Nat)) → (∀ k, k + 1 < b.length → (sAt st (nAt b k)).feeds = (nAt b (k + 1) : Nat)) → nAt a 0 = nAt b 0 → ∀ k, k < a.length → k < b.length ∧ nAt a k = nAt b k := by
    intro a b ha hb fa fb h0 k
    induction k with
    | zero => exact fun _ => ⟨by have := hb.two; omega, h0⟩
    | succ k ih =>
      intro hk
      obtain ⟨h1, h2⟩ := ih (by omega)
      have h3 := fa k hk
      by_cases h4 : k + 1 < b.length
      · have h5 := fb k h4
        rw [h2] at h3
        exact ⟨h4, by omega⟩
      · have hb2 := hb.two
        have h5 := fb (k - 1) (by omega)
        rw [show k - 1 + 1 = k by omega] at h5
        have h6 := hb.lst
        rw [show b.length - 1 = k by omega, (hb.nat h1).1] at h6
        have h7 := ho _ _ (hb.nat (by omega : k - 1 < b.length)).2 h5 h6
        unfold nAt at h3 h7 h2
        rw [h2] at h3
        omega
  have F1 := fwd ha hb fa fb h0
  have F2 := fwd hb ha fb fa h0.symm
  have hlen : a.length = b.length := by
    have h1 := (F1 (a.length - 1) (by have := ha.two; omega)).1
    have h2 := (F2 (b.length - 1) (by have := hb.two; omega)).1
    have := ha.two; have := hb.two
    omega
  refine List.ext_getElem hlen fun k h1 h2 => ?_
  have h3 := (F1 k h1).2
  have e3 := (ha.nat h1).1
  have e4 := (hb.nat h2).1
  have e5 : a[k] = a.getD k 0 := by rw [List.getD_eq_getElem?_getD, List.getElem?_eq_getElem h1]; rfl
  have e6 : b[k] = b.getD k 0 := by rw [List.getD_eq_getElem?_getD, List.getElem?_eq_getElem h2]; rfl
  unfold nAt at h3
  rw [e5, e6, e3, e4, h3]
end Go.Proofs.YtahpdkkpnkhnhaaGreatDoor

/- A region that draws its order: quiet operations, then a call that all others wait for or are waited for by, then quiet operations in whatever order. -/
namespace Go
open Go.RowKit
section
variable {P : Program} {ops : Array Oper} {C : World → Prop}
def Region.chainW (ops : Array Oper) (n : Nat) : Bool := (List.range ops.size).all fun t => decide (t ≤ n) || (List.range ops.size).any fun j => decide (n ≤ j) && Region.waitsFor .any ops t j
def Region.midB (ops : Array Oper) (n : Nat) (listed : Array Bool) : Bool := decide (Region.ready .any ops listed = [n]) && Region.lexFrom .any ops (ops.size - n - 1) (n + 1) (listed.setIfInBounds n true)
def Region.lexHead3 (ops : Array Oper) (n : Nat) : Nat → Nat → Array Bool → Bool
  | 0, _, listed => Region.midB ops n listed
  | f + 1, k, listed => (Region.ready .any ops listed).contains k && Region.free .any ops listed k && Region.lexHead3 ops n f (k + 1) (listed.setIfInBounds k true)
def Region.lexThreeB (ops : Array Oper) (n : Nat) : Bool :=
  Region.noSelect ops && decide (n < ops.size) && Region.sinkB .any ops n && Region.chainW ops n && Region.lexHead3 ops n n 0 (Array.replicate ops.size false)
/-- This world. -/
structure SameW (W : World) where
  w : World
  h : w = W
instance (W : World) : Nonempty (SameW W) := ⟨⟨W, rfl⟩⟩
theorem SameW.cell {W : World} (X : SameW W) (b o : Nat) : X.w.cell? ⟨b, o, none⟩ = W.cell? ⟨b, o, none⟩ := by rw [X.h]
attribute [go_sem] SameW.cell
theorem midB_ready {n : Nat} {listed : Array Bool} (h : Region.midB ops n listed = true) : ∀ j ∈ Region.ready .any ops listed, n ≤ j := by
  intro j hj
  simp only [Region.midB, Bool.and_eq_true, decide_eq_true_eq] at h
  rw [h.1] at hj
  have : j = n := by simpa using hj
  omega
/-- Where the middle operation may come up, all before it have. -/
theorem heads_listed {n : Nat} {listed : Array Bool} (hs : Region.sinkB .any ops n = true) (inv : HeadInv .any ops n listed) (hr : n ∈ Region.ready .any ops listed) : ∀ k i, n ≤ i + k → i < n → listed.getD i false = true
  | 0, i, h, hi => by omega
  | k + 1, i, h, hi => by
    obtain ⟨_, on, hon, hall⟩ := mem_ready.1 hr
    obtain ⟨j, hj, hw⟩ := List.any_eq_true.1 (List.all_eq_true.1 hs i (List.mem_range.2 hi))
    rw [Bool.and_eq_true, decide_eq_true_eq] at hw
    have hj := List.mem_range.1 hj
    obtain ⟨oj, ho, e, he, hb, hi'⟩ := Region.waitsFor_spec hw.2
    rcases Nat.lt_or_ge j n with hjn | hjn
    · rw [← hi']
      exact inv.closed j oj ho (heads_listed hs inv hr k j (by omega) hjn) e he hb
    · obtain rfl : j = n := by omega
      rw [hon] at ho
      obtain rfl := Option.some.inj ho
      rw [← hi']
      exact hall e he hb
theorem tail_waits3 {n : Nat} (hs : Region.sinkB .any ops n = true) (hc : Region.chainW ops n = true) (listed : Array Bool) (inv : HeadInv .any ops n listed) (i : Nat) (hi : i < n) (hun : listed.getD i true = false) (t : Nat) (ht : n ≤ t) : t ∉ Region.ready .any ops listed := fun hr => by
  rcases Nat.eq_or_lt_of_le ht with rfl | hlt
  · have := heads_listed hs inv hr n i (by omega) hi
    rw [getD_both hun] at this; cases this
  · obtain ⟨_, ot, hot, hall⟩ := mem_ready.1 hr
    have h1 := List.all_eq_true.1 hc t (List.mem_range.2 (Array.getElem?_eq_some_iff.1 hot).1)
    rw [Bool.or_eq_true, decide_eq_true_eq] at h1
    obtain ⟨j, hj, hw⟩ := List.any_eq_true.1 (h1.resolve_left (by omega))
    rw [Bool.and_eq_true, decide_eq_true_eq] at hw
    obtain ⟨ot', hot', e, he, hb, hon⟩ := Region.waitsFor_spec hw.2
    rw [hot] at hot'
    obtain rfl := Option.some.inj hot'
    have h2 := hall e he hb
    rw [hon, getD_both (inv.tail j hw.1 (List.mem_range.1 hj))] at h2
    cases h2
theorem headQ_first3 {n i : Nat} {oi : Oper} {v : Value} {L : Array Bool → Act → Prop} (hi : ops[i]? = some oi) (hsel : ∀ (j : Nat) (o : Oper) cs b, ops[j]? = some o → o.op ≠ .select cs b)
    (hT : ∀ listed, HeadInv .any ops n listed → ∀ i, i < n → listed.getD i true = false → ∀ t, n ≤ t → t ∉ Region.ready .any ops listed) (hin : i < n)
    (hdone : ∀ listed a, L listed a → ∀ j ∈ Region.ready .any ops listed, n ≤ j) (f : Nat) :
    ∀ (listed : Array Bool) (a : Act), HeadInv .any ops n listed →
      (∀ j oj, ops[j]? = some oj → j ≠ i → listed.getD j true = false → (∀ e ∈ oj.after, Region.binds .any e = true → e.on ≠ i) → oi.apart ops oj = true) →
      i ∈ Region.ready .any ops listed → YieldsIn P ops C oi v a →
      headQ P .any ops C n L f (listed.setIfInBounds i true) (a.put oi.dst v) → headQ P .any ops C n L (f + 1) listed a := by
  induction f with
  | zero =>
    intro listed a inv _ hr hy H
    have hun := (mem_ready.1 hr).1
    refine ⟨fun h => (by rw [h] at hr; cases hr), fun j hj => ?_⟩
    have hjn : j < n := Nat.lt_of_not_le fun h => hT _ inv i hin hun j h hj
    by_cases hji : j = i
    · subst hji; exact ⟨hjn, hy.qOp hi H⟩
    · exact absurd (hdone _ _ H j (ready_mono hj hji)) (by omega)
  | succ f ih =>
    intro listed a inv hfree hr hy H
    have hun := (mem_ready.1 hr).1
    refine ⟨fun h => (by rw [h] at hr; cases hr), fun j hj => ?_⟩
    have hjn : j < n := Nat.lt_of_not_le fun h => hT _ inv i hin hun j h hj
    by_cases hji : j = i
    · subst hji; exact ⟨hjn, hy.qOp hi H⟩
    · have h1 := (H.2 j (ready_mono hj hji)).2
      obtain ⟨hjun, oj, hoj, hall⟩ := mem_ready.1 hj
      have hnot : ∀ e ∈ oj.after, Region.binds .any e = true → e.on ≠ i := fun e he hb heq => by
        have h1 := hall e he hb
        rw [heq, getD_both hun] at h1
        cases h1
      have h2 := qOp_put hoj (hfree j oj hoj hji hjun hnot) (fun cs b => hsel i oi cs b hi) (fun cs b => hsel j oj cs b hoj) hy h1
      refine ⟨hjn, qOp_mono (fun a' h3 => ih (listed.setIfInBounds j true) a' (inv.set hj hjn) (fun k ok hk hki hk0 hno => hfree k ok hk hki ?_ hno) (ready_mono hr (Ne.symm hji)) h3.1 ?_) h2⟩
      · by_cases hjk : j = k
        · subst hjk; exact hjun
        · rw [getD_set_ne true hjk] at hk0; exact hk0
      · rw [Array.setIfInBounds_comm _ _ hji]; exact h3.2
theorem headQ_lex3 {n : Nat} {Lq : Act → Prop} (hsel : Region.noSelect ops = true) (hT : ∀ listed, HeadInv .any ops n listed → ∀ i, i < n → listed.getD i true = false → ∀ t, n ≤ t → t ∉ Region.ready .any ops listed) :
    ∀ (l : List Oper) (k : Nat) (listed : Array Bool) (a : Act), (∀ j, j < l.length → l[j]? = ops[k + j]?) → k + l.length = n → HeadInv .any ops n listed →
    Region.lexHead3 ops n l.length k listed = true → wpQuiet P ops C Lq l a →
    headQ P .any ops C n (fun listed' a' => Region.midB ops n listed' = true ∧ Lq a') l.length listed a
  | [], _, _, _, _, _, _, hB, h => ⟨hB, h⟩
  | o :: l, k, listed, a, hl, hk, inv, hB, h => by
    have h0 : ops[k]? = some o := by simpa using (hl 0 (by simp)).symm
    simp only [List.length_cons, Region.lexHead3, Bool.and_eq_true] at hB
    obtain ⟨⟨hr, hf⟩, hB'⟩ := hB
    have hkn : k < n := by simp only [List.length_cons] at hk; omega
    have hr' : k ∈ Region.ready .any ops listed := by simpa using hr
    have hst : qOp P ops C k (wpQuiet P ops C Lq l) a := by unfold qOp; simp only [h0]; exact h
    obtain ⟨v, hy, hK⟩ := yieldsIn_of_qOp h0 hst
    exact headQ_first3 h0 (Region.noSelect_spec hsel) hT hkn (fun listed' a' hL => midB_ready hL.1) l.length listed a inv (Region.free_spec h0 hf) hr' hy
      (headQ_lex3 hsel hT l (k + 1) _ _ (fun j hj => by have := hl (j + 1) (by simp; omega); simpa [Nat.add_assoc, Nat.add_comm 1 j] using this) (by simp only [List.length_cons] at hk; omega) (inv.set hr' hkn) hB' hK)
/-- The rule. -/
theorem wp_region_three {id : Nat} {Q : Exit → Act → World → Prop} {a : Act} {w : World} {l : List Oper} (n : Nat) (o : Oper) (ho : l[n]? = some o) (hg : o.guard = none) (hm : P.follows .mixedOrders = true) (hB : Region.lexThreeB l.toArray n = true)
    (hC : C { w with drawn := w.drawn + 1 })
    (h : wpQuiet P l.toArray C (fun a' => ∀ w', C w' → ∃ fn args, (execOp a'.eval o).run P w' = .ok (.enter fn args) w' ∧ Calls P fn args w' fun e w'' => ∃ v, e = .returned v ∧ wpQuiet P l.toArray (fun x => ∃ X : SameW w'', x = X.w) (fun a3 => Q .normal a3 w'') (l.drop (n + 1)) (a'.put o.dst v)) (l.take n) a) : (Code.region id l.toArray true).wp P Q a w := by
  simp only [Region.lexThreeB, Bool.and_eq_true, decide_eq_true_eq] at hB
  obtain ⟨⟨⟨⟨hsel, hn⟩, hs⟩, hc⟩, hlex⟩ := hB
  have hn' : n < l.length := by simpa using hn
  have htl : (l.take n).length = n := by simp; omega
  have hdl : (l.drop (n + 1)).length = l.toArray.size - n - 1 := by simp; omega
  have inv0 : HeadInv .any l.toArray n (Array.replicate l.toArray.size false) :=
    ⟨by simp, fun j oj _ hl => (by rw [getD_replicate_false] at hl; cases hl), fun t _ ht => getD_in (by simpa using ht) (getD_replicate_false _ _)⟩
  have H := headQ_lex3 (C := C) hsel (tail_waits3 hs hc) (l.take n) 0 _ a (fun j hj => by
    have hj' : j < n := by rw [htl] at hj; exact hj
    simp [hj']) (by simpa using htl) inv0 (by rw [htl]; exact hlex) h
  refine wp_region_any hm ?_
  have := wpAny_of_headQ (Q' := Q) (g := l.toArray.size - n - 1 + 1) (fun listed a' w' hw' hL => by
    obtain ⟨hmid, hL⟩ := hL
    simp only [Region.midB, Bool.and_eq_true, decide_eq_true_eq] at hmid
    refine ⟨fun h0 => (by rw [hmid.1] at h0; cases h0), fun i hi => ?_⟩
    rw [hmid.1] at hi
    obtain rfl : i = n := by simpa using hi
    obtain ⟨fn, args, hrun, hcall⟩ := hL w' hw'
    have hoa : l.toArray[i]? = some o := by simpa using ho
    unfold wpOp
    simp only [hoa]
    rw [if_pos (by simp [Region.wanted, hg])]
    refine .inl ?_
    unfold Oper.wp
    rw [hrun, Oper.upon_enter]
    refine hcall.mono ?_
    rintro _ w'' ⟨v, rfl, hq⟩
    have hq2 := wpAnyQ_lex (P := P) (md := .any) (ops := l.toArray) (C := fun x => ∃ X : SameW w'', x = X.w) (Q := fun a3 => Q .normal a3 w'') hsel (l.drop (i + 1)) (i + 1) (listed.setIfInBounds i true) _ (fun j => by simp [List.getElem?_drop]) (by rw [hdl]; exact hmid.2) hq
    rw [hdl] at hq2
    exact wpAny_of_quiet (C := fun x => ∃ X : SameW w'', x = X.w) (fun a3 w3 h3 hq => by obtain ⟨X, rfl⟩ := h3; rw [X.h]; exact hq) _ _ _ _ ⟨⟨w'', rfl⟩, rfl⟩ hq2) _ _ _ _ hC H
  rw [htl, show n + (l.toArray.size - n - 1 + 1) = l.toArray.size by omega] at this
  exact this
/-- At the class 'w after some draws'. -/
theorem wp_region_three_drew {id : Nat} {Q : Exit → Act → World → Prop} {a : Act} {w : World} {l : List Oper} (n : Nat) (o : Oper) (ho : l[n]? = some o) (hg : o.guard = none) (hm : P.follows .mixedOrders = true) (hB : Region.lexThreeB l.toArray n = true)
    (h : wpQuiet P l.toArray (fun w' => ∃ n, w' = w.drewN n) (fun a' => ∀ w', (∃ n, w' = w.drewN n) → ∃ fn args, (execOp a'.eval o).run P w' = .ok (.enter fn args) w' ∧ Calls P fn args w' fun e w'' => ∃ v, e = .returned v ∧ wpQuiet P l.toArray (fun x => ∃ X : SameW w'', x = X.w) (fun a3 => Q .normal a3 w'') (l.drop (n + 1)) (a'.put o.dst v)) (l.take n) a) : (Code.region id l.toArray true).wp P Q a w :=
  wp_region_three n o ho hg hm hB ⟨1, rfl⟩ h
end
end Go

/- Walks: Few; a command. -/
namespace Go.Proofs.YtahpdkkpnkhnhaaGreatDoor
open Go Go.Proofs Go.RowKit Go.Shelf
def fewB (p : Pl) (n : Int) : Bool := decide ((p.ms.length : Int) ≤ n) && ckPlant p == 0
set_option maxRecDepth 100000 in
set_option maxHeartbeats 1000000 in
theorem few67 (w : World) (v1 v2 : Value) (p : Pl) (n : Int) (hv : PlR w w.heap.size v1 v2 p) : Calls Tryz.prog 67 #[.agg #[v1, v2], .int .i64 n] w (Ret (.bool (fewB p n)) w) := by
  have HC := Lib.hid (fun (w1 : World) (hb : Below w.heap.size w w1) => ckPlant19 w1 _ _ p (hv.later hb))
  obtain ⟨a1, n1, a2, n2, rfl, rfl⟩ := hv.agg
  clear hv
  have HB := Lib.hid ((Below.refl w.heap.size w).alloc (Nat.le_refl _) (.cells #[.slice a1 p.ms.length n1, .slice a2 p.arcs.length n2] 25))
  have HX := Lib.hid (Box.new w #[.slice a1 p.ms.length n1, .slice a2 p.arcs.length n2] 25)
  obtain ⟨R, hR⟩ : ∃ R, fewB p n = R := ⟨_, rfl⟩
  rw [hR]
  unfold fewB at hR
  have HR := Lib.hid hR
  clear hR
  obtain ⟨m, hm⟩ : ∃ n, p.ms.length = n := ⟨_, rfl⟩
  obtain ⟨k, hk⟩ : ∃ n, p.arcs.length = n := ⟨_, rfl⟩
  obtain ⟨ck, hck⟩ : ∃ n, ckPlant p = n := ⟨_, rfl⟩
  rw [hm] at HB HX HC HR ⊢
  rw [hk] at HB HX HC ⊢
  rw [hck] at HC HR
  clear hm hk hck
  cases hq : decide ((m : Int) ≤ n) with
  | false =>
    rw [hq] at HR
    go_enter Tryz.func67, Tryz.ntmps67
    go_wp2_with fail
    go_ret
    exact ⟨by rw [← HR.out]; rfl, HB.out⟩
  | true =>
    rw [hq, Bool.true_and] at HR
    go_enter Tryz.func67, Tryz.ntmps67
    go_wp2_with fail
    refine (HC.out _ HB.out).mono ?_
    rintro e w2 ⟨rfl, hb⟩
    have HB2 := Lib.hid (HB.out.trans (hb.mono HB.out.size))
    go_wp2_with fail
    go_ret
    exact ⟨by rw [← HR.out]; rfl, HB2.out⟩
/-- What a command does. -/
def doE (p : Pl) (st : List Sx) (l : List Int) (g : ByteArray) : Nat → Int
  | 0 => startE p st l g
  | 1 => stopE p st l
  | 2 => cleanE p st l
  | 3 => faultE p st (l.getD 1 0)
  | _ => stopE p st l
noncomputable def doTo (p : Pl) (st : List Sx) (l : List Int) (g : ByteArray) : Nat → List Sx
  | 0 => startTo p l g st l.length
  | 1 => stopTo p l false st l.length
  | 2 => stopTo p l true st l.length
  | 3 => offL st (upL st (l.getD 1 0) st.length ++ [l.getD 1 0])
  | _ => resumeTo p l st l.length
theorem StE.two {w W1 w' : World} {E : Int} {st : List Sx} {e : Ending} {Q : Ending → World → Prop} (h : StE W1 E st e w') (hb : Below w.heap.size w W1) (hQ : StE w E st = Q) : ∃ v c, e = .returned (.tuple #[v, .int .i64 c]) ∧ Q e w' := by
  subst hQ
  obtain ⟨v, rfl, ho, hb'⟩ := h
  exact ⟨v, E, rfl, v, rfl, ho.lower hb.size, hb.trans (hb'.mono hb.size)⟩
set_option maxRecDepth 100000 in
set_option maxHeartbeats 4000000 in
theorem do68 (w : World) (v1 v2 u : Value) (ay : Option Addr) (ny cy kd : Nat) (gn : ByteArray) (p : Pl) (st : List Sx) (l : List Int) (hw : WdR w) (hv : PlR w w.heap.size v1 v2 p) (hu : Sl Sx.enc 3 w w.heap.size u st) (hs : SzR st) (hx : Sl encI 1 w w.heap.size (.slice ay ny cy) l) (hg : gn.size ≤ 9223372036854775807) (h2 : 2 ≤ l.length) (hkd : kd < 256) :
    Calls Tryz.prog 68 #[.agg #[v1, v2], u, .agg #[.int .u8 kd, .slice ay ny cy, .string gn]] w (StE w (doE p st l gn (kd % 5)) (doTo p st l gn (kd % 5))) := by
  have C26 := Lib.hid (fun (w1 : World) (hb : Below w.heap.size w w1) => start26 w1 _ _ _ _ gn p st l (hw.later hb) (hv.later hb) (hu.later hb) hs (hx.later hb) hg)
  have C44 := Lib.hid (fun (w1 : World) (hb : Below w.heap.size w w1) => stop44 w1 _ _ _ _ p st l (hw.later hb) (hv.later hb) (hu.later hb) hs (hx.later hb))
  have C45 := Lib.hid (fun (w1 : World) (hb : Below w.heap.size w w1) => clean45 w1 _ _ _ _ p st l (hw.later hb) (hv.later hb) (hu.later hb) hs (hx.later hb))
  have C46 := Lib.hid (fun (w1 : World) (hb : Below w.heap.size w w1) => resume46 w1 _ _ _ _ p st l (hw.later hb) (hv.later hb) (hu.later hb) hs (hx.later hb))
  have C39 := Lib.hid (fun (w1 : World) (hb : Below w.heap.size w w1) => fault39 w1 _ _ _ p st (l.getD 1 0) (hw.later hb) (hv.later hb) (hu.later hb) hs)
  obtain ⟨a1, n1, a2, n2, rfl, rfl⟩ := hv.agg
  obtain ⟨au, nu, cu, rfl⟩ : ∃ a n c, u = .slice a n c := by obtain ⟨a, c, e, _⟩ := hu; exact ⟨a, _, c, e⟩
  obtain ⟨ay', cy', e1, _, hA⟩ := hx
  cases e1
  obtain ⟨by_, oy, rfl, hby, hcy⟩ := hA (by omega)
  have HL1 := Lib.hid (hcy 1 (by omega))
  have HEL := Lib.hid (show l[1] = l.getD 1 0 from (by rw [List.getD_eq_getElem?_getD, List.getElem?_eq_getElem (by omega)]; rfl))
  rw [HEL.out] at HL1
  have HB := Lib.hid (((Below.refl w.heap.size w).alloc (Nat.le_refl _) (.cells #[.slice a1 p.ms.length n1, .slice a2 p.arcs.length n2] 25)).alloc (by simp) (.cells #[.int .u8 kd, .slice (some ⟨by_, oy, none⟩) l.length cy, .string gn] 97))
  have HX := Lib.hid ((Box.new w #[.slice a1 p.ms.length n1, .slice a2 p.arcs.length n2] 25).alloc (.cells #[.int .u8 kd, .slice (some ⟨by_, oy, none⟩) l.length cy, .string gn] 97))
  have HY := Lib.hid (Box.newAt (w.alloc (.cells #[.slice a1 p.ms.length n1, .slice a2 p.arcs.length n2] 25)) #[.int .u8 kd, .slice (some ⟨by_, oy, none⟩) l.length cy, .string gn] 97 (by simp : _ = w.heap.size + 1))
  obtain ⟨W1, hW1⟩ : ∃ W, (w.alloc (.cells #[.slice a1 p.ms.length n1, .slice a2 p.arcs.length n2] 25)).alloc (.cells #[.int .u8 kd, .slice (some ⟨by_, oy, none⟩) l.length cy, .string gn] 97) = W := ⟨_, rfl⟩
  rw [hW1] at HB HX HY
  obtain ⟨x0, x1, xf, xz⟩ := HX.out.v2
  have y0 := HY.out.cell 0
  have y1 := HY.out.cell 1
  have y2 := HY.out.cell 2
  have yz := HY.out.lt
  simp only [List.getElem?_cons_zero, List.getElem?_cons_succ] at y0 y1 y2
  have l1 := ((HL1.out).below HB.out hby).c1
  rw [Nat.mul_one] at l1
  have hbyz : by_ < W1.heap.size := Nat.lt_of_lt_of_le hby HB.out.size
  obtain ⟨r, hr⟩ : ∃ r, kd % 5 = r := ⟨_, rfl⟩
  have hr5 : r < 5 := by omega
  have htm : Int.tmod (kd : Int) 5 = (r : Int) := by rw [Int.tmod_eq_emod_of_nonneg (by omega)]; omega
  have hwr : IntKind.u8.wrap (r : Int) = (r : Int) := by
    match r, hr5 with
    | 0, _ => rfl
    | 1, _ => rfl
    | 2, _ => rfl
    | 3, _ => rfl
    | 4, _ => rfl
  have hl2 : (1 : Int) < (l.length : Int) := by omega
  rw [hr]
  clear hw hv hu hA hcy hr HL1 HEL hby
  obtain ⟨Q, hQ⟩ : ∃ Q, StE w (doE p st l gn r) (doTo p st l gn r) = Q := ⟨_, rfl⟩
  rw [hQ]
  have HQ : Hid (∀ (f : Nat) (args : Array Value) (W2 : World), Below w.heap.size w W2 → Calls Tryz.prog f args W2 (StE W2 (doE p st l gn r) (doTo p st l gn r)) → Calls Tryz.prog f args W2 fun e w' => ∃ v c, e = .returned (.tuple #[v, .int .i64 c]) ∧ Q e w') := Lib.hid (fun f args W2 hb h => h.mono fun e w' h => StE.two h hb hQ)
  clear hQ
  have K26 := Lib.hid (fun h : r = 0 => HQ.out _ _ W1 HB.out (by subst h; exact C26.out W1 HB.out))
  have K44 := Lib.hid (fun h : r = 1 => HQ.out _ _ W1 HB.out (by subst h; exact C44.out W1 HB.out))
  have K45 := Lib.hid (fun h : r = 2 => HQ.out _ _ W1 HB.out (by subst h; exact C45.out W1 HB.out))
  have K39 := Lib.hid (fun (h : r = 3) (W2 : World) (hb : Below w.heap.size w W2) => HQ.out _ _ W2 hb (by subst h; exact C39.out W2 hb))
  have K46 := Lib.hid (fun h : r = 4 => HQ.out _ _ W1 HB.out (by subst h; exact C46.out W1 HB.out))
  clear HQ C26 C44 C45 C39 C46
  generalize l.getD 1 0 = m1 at *
  obtain ⟨ln, hln⟩ : ∃ n, l.length = n := ⟨_, rfl⟩
  obtain ⟨n, hn⟩ : ∃ n, p.ms.length = n := ⟨_, rfl⟩
  obtain ⟨m, hm⟩ : ∃ n, p.arcs.length = n := ⟨_, rfl⟩
  rw [hln] at y1 hl2 hW1 K26 K44 K45 K46 ⊢
  rw [hn] at x0 hW1 K26 K44 K45 K46 K39 ⊢
  rw [hm] at x1 hW1 K26 K44 K45 K46 K39 ⊢
  clear hln hn hm HX HY h2
  rcases (by omega : r = 0 ∨ r = 1 ∨ r = 2 ∨ r = 3 ∨ r = 4) with rfl | rfl | rfl | rfl | rfl
  · have K := Lib.hid (K26.out rfl)
    clear K26 K44 K45 K39 K46
    go_enter Tryz.func68, Tryz.ntmps68
    go_wp2_with fail
    try rw [hW1]
    refine K.out.mono ?_
    rintro e w2 ⟨v, c, rfl, hq⟩
    go_wp2_with fail
    exact hq
  · have K := Lib.hid (K44.out rfl)
    clear K26 K44 K45 K39 K46
    go_enter Tryz.func68, Tryz.ntmps68
    go_wp2_with fail
    try rw [hW1]
    refine K.out.mono ?_
    rintro e w2 ⟨v, c, rfl, hq⟩
    go_wp2_with fail
    exact hq
  · have K := Lib.hid (K45.out rfl)
    clear K26 K44 K45 K39 K46
    go_enter Tryz.func68, Tryz.ntmps68
    go_wp2_with fail
    try rw [hW1]
    refine K.out.mono ?_
    rintro e w2 ⟨v, c, rfl, hq⟩
    go_wp2_with fail
    exact hq
  · have K := Lib.hid (K39.out rfl)
    clear K26 K44 K45 K39 K46
    go_enter Tryz.func68, Tryz.ntmps68
    go_wp2_with fail
    try rw [hW1]
    refine wp_region_three_drew 6 _ rfl rfl (by kernel_rfl) (by kernel_rfl) ?_
    simp only [List.take_succ_cons, List.take_zero, List.drop_succ_cons, List.drop_zero]
    repeat go_big_quiet_step (fail)
    refine wpQuiet_nil ?_
    rintro _ ⟨nq, rfl⟩
    refine ⟨39, _, ?_, (K.out _ (below_drewN HB.out nq)).mono ?_⟩
    · go_simp
      first | done | rfl
    · rintro e w2 ⟨v, c, rfl, hq⟩
      refine ⟨_, rfl, ?_⟩
      simp only [Act.put, List.setIfInBounds_toArray, List.set_cons_succ, List.set_cons_zero, List.drop_succ_cons, List.drop_zero]
      repeat go_big_quiet_step (fail)
      refine wpQuiet_nil ?_
      go_wp2_with fail
      exact hq
  · have K := Lib.hid (K46.out rfl)
    clear K26 K44 K45 K39 K46
    go_enter Tryz.func68, Tryz.ntmps68
    go_wp2_with fail
    try rw [hW1]
    refine K.out.mono ?_
    rintro e w2 ⟨v, c, rfl, hq⟩
    go_wp2_with fail
    exact hq
end Go.Proofs.YtahpdkkpnkhnhaaGreatDoor

/- Plain: what the law PathCleans asks. -/
namespace Go.Proofs.YtahpdkkpnkhnhaaGreatDoor
open Go Go.Proofs Go.RowKit Go.Shelf
theorem SzR.at_ {S : List Sx} (h : ∀ x : Nat, x < S.length → (sAt S x).grain.size ≤ 9223372036854775807) : SzR S := by
  intro s hs
  obtain ⟨k, hk, rfl⟩ := List.mem_iff_getElem.1 hs
  have := h k hk
  rw [sAt, stGet hk] at this
  exact this
theorem SzR.get {S : List Sx} (h : SzR S) {x : Nat} : (sAt S x).grain.size ≤ 9223372036854775807 := by
  by_cases hx : x < S.length
  · rw [sAt, stGet hx]; exact h _ (List.getElem_mem hx)
  · unfold sAt
    rw [List.getD_eq_getElem?_getD, List.getElem?_eq_none (by omega)]
    show (s0).grain.size ≤ _
    decide
section
variable {p : Pl} {st S : List Sx} {l : List Int} {g : ByteArray} {cl : Bool}
theorem StartV.sz (A : StartV p st S l g) (hl : PaV p l) (hz : SzR st) (hg : g.size ≤ 9223372036854775807) : SzR S := by
  refine SzR.at_ fun x _ => ?_
  rcases hl.cases x with ⟨k, hk, rfl⟩ | hx0
  · have e := A.grain k hk
    unfold nAt at e
    rw [e]
    split
    · exact hg
    · exact hz.get
  · rw [A.off x hx0]; exact hz.get
theorem StopV.sz (A : StopV p st S l cl) (hl : PaV p l) (hz : SzR st) : SzR S := by
  refine SzR.at_ fun x _ => ?_
  rcases hl.cases x with ⟨k, hk, rfl⟩ | hx0
  · have e := A.grain k hk
    unfold nAt at e
    rw [e]
    split
    · decide
    · exact hz.get
  · rw [A.off x hx0]; exact hz.get
theorem FltV.sz {m : Nat} (A : FltV st S m) (hz : SzR st) : SzR S := by
  refine SzR.at_ fun x hx => ?_
  rw [A.len] at hx
  rw [(A.feeds hx).2.1]; exact hz.get
theorem ResV.sz (A : ResV p st S l) (hz : SzR st) : SzR S := by
  refine SzR.at_ fun x hx => ?_
  rw [A.grain]; exact hz.get
end
theorem ckS_pl {p : Pl} {st : List Sx} (h : ckState p st = 0) : ckPlant p = 0 := by
  unfold ckState at h
  split at h
  · rename_i h1; exact absurd h h1
  · rename_i h1; exact Decidable.not_not.1 h1
theorem startE_ok {p : Pl} {st : List Sx} {l : List Int} {g : ByteArray} (hl : PaV p l) (h : startE p st l g = 0) : isName g = true ∧ ∀ k, k < l.length → StK p st g k (nAt l k) := by
  unfold startE at h
  split at h
  · rename_i h1; exact absurd h h1
  · split at h
    · cases h
    · rename_i h2
      exact ⟨by simpa using h2, (startL_iff hl).1 h⟩
end Go.Proofs.YtahpdkkpnkhnhaaGreatDoor

/- Plain: commands, and what one leaves. -/
namespace Go.Proofs.YtahpdkkpnkhnhaaGreatDoor
open Go Go.Proofs Go.RowKit Go.Shelf
/-- A command as the argument has it: its path may be too long to be read. -/
structure CmV where
  kd : Nat
  a : Option Addr
  n : Nat
  c : Nat
  g : ByteArray
  p : List Int
def CmV.enc (t : CmV) : List Value := [.int .u8 t.kd, .slice t.a t.n t.c, .string t.g]
theorem CmV.enc_len (t : CmV) : t.enc.length = 3 := rfl
def cv0 : CmV := ⟨0, none, 0, 0, ⟨#[]⟩, []⟩
structure CmF (w : World) (B : Nat) (t : CmV) : Prop where
  kd : t.kd < 256
  n : t.n ≤ 9223372036854775807
  g : t.g.size ≤ 9223372036854775807
  p : t.n ≤ 80 → Sl encI 1 w B (.slice t.a t.n t.c) t.p
/-- The commands, if there are not too many. -/
def CvR (w : World) (B : Nat) (u : Value) (n : Nat) (l : List CmV) : Prop := n ≤ 12 → Sl CmV.enc 3 w B u l ∧ l.length = n ∧ ∀ t ∈ l, CmF w B t
/-- A state that commands have led to. -/
structure GoodS (p : Pl) (T : List Sx) : Prop where
  ck : ckState p T = 0
  v : StV p T
  one : OneW p T
  sz : SzR T
theorem GoodS.len {p : Pl} {T : List Sx} (h : GoodS p T) : T.length = p.ms.length := h.v.len
theorem good_emp {p : Pl} (h : ckPlant p = 0) : GoodS p (emptyS p.ms.length) := by
  obtain ⟨h1, h2⟩ := emp_valid p
  refine ⟨h1.ck h, h1, h2, ?_⟩
  intro s hs
  rw [List.eq_of_mem_replicate hs]
  decide
theorem stopE_ok {p : Pl} {st : List Sx} {l : List Int} (h : stopE p st l = 0) : setB st l = true := by
  unfold stopE at h
  split at h
  · rename_i h1; exact absurd h h1
  · cases hs : setB st l with
    | true => rfl
    | false => rw [hs] at h; cases h
theorem cleanE_ok {p : Pl} {st : List Sx} {l : List Int} (h : cleanE p st l = 0) : setB st l = true := by
  unfold cleanE at h
  split at h
  · rename_i h1; exact absurd h h1
  · cases hs : setB st l with
    | true => rfl
    | false => rw [hs] at h; cases h
theorem good_do {p : Pl} {T : List Sx} {l : List Int} {g : ByteArray} {kd : Nat} (hk : kd < 5) (h : GoodS p T) (hpe : pathE p l = 0) (hg : g.size ≤ 9223372036854775807) (he : doE p T l g kd = 0) :
    GoodS p (doTo p T l g kd) ∧ ∀ m, m < T.length → StepOk p T (doTo p T l g kd) l g kd m := by
  have hok := (ckState_ok h.ck).1
  have hckp := ckS_pl h.ck
  have hl := PaV.of hpe
  have hv := h.v
  match kd, hk with
  | 0, _ =>
    obtain ⟨hnm, hs⟩ := startE_ok hl (show startE p T l g = 0 from he)
    have A := StartV.of hok hv hl hs
    have hvS := A.valid hok hv hl hs hnm
    exact ⟨⟨hvS.ck hckp, hvS, A.one hok hv hl hs h.one, A.sz hl h.sz hg⟩, fun m _ => A.step hl hs m⟩
  | 1, _ =>
    have hs := (setB_at hl).1 (stopE_ok (show stopE p T l = 0 from he))
    have A := StopV.of hv hl false
    have hvS := A.valid hv hl hs
    exact ⟨⟨hvS.ck hckp, hvS, A.one hv hl hs h.one, A.sz hl h.sz⟩, fun m _ => A.step hl m⟩
  | 2, _ =>
    have hs := (setB_at hl).1 (cleanE_ok (show cleanE p T l = 0 from he))
    have A := StopV.of hv hl true
    have hvS := A.valid hv hl hs
    exact ⟨⟨hvS.ck hckp, hvS, A.one hv hl hs h.one, A.sz hl h.sz⟩, fun m _ => A.step hl m⟩
  | 3, _ =>
    have e := (hl.nat (by have := hl.two; omega : 1 < l.length)).1
    have A := FltV.of T (l.getD 1 0).toNat
    rw [← e] at A
    have hvS := A.valid hok hv
    exact ⟨⟨hvS.ck hckp, hvS, A.one hok hv h.one, A.sz h.sz⟩, fun m hm => A.step hl hm⟩
  | 4, _ =>
    have hs := (setB_at hl).1 (stopE_ok (show stopE p T l = 0 from he))
    have A := ResV.of hv hl
    have hvS := A.valid hv hl hs
    exact ⟨⟨hvS.ck hckp, hvS, A.one h.one, A.sz h.sz⟩, fun m _ => A.step hl m⟩
end Go.Proofs.YtahpdkkpnkhnhaaGreatDoor

/- Plain: tasks that meet; the starts that the reference tries. -/
namespace Go.Proofs.YtahpdkkpnkhnhaaGreatDoor
open Go Go.Proofs Go.RowKit Go.Shelf
theorem getD_geI {l : List Int} {k : Nat} (h : k < l.length) : l.getD k 0 = l[k] := by rw [List.getD_eq_getElem?_getD, List.getElem?_eq_getElem h]; rfl
end Go.Proofs.YtahpdkkpnkhnhaaGreatDoor

/- Walks: Meet of the reference. -/
namespace Go.Proofs.YtahpdkkpnkhnhaaGreatDoor
open Go Go.Proofs Go.RowKit Go.Shelf
theorem Box.t3 {w : World} {b : Nat} {e : TypeId} {x y z : Value} (h : Box w b e [x, y, z]) : w.cell? ⟨b, 0, none⟩ = some x ∧ w.cell? ⟨b, 1, none⟩ = some y ∧ w.cell? ⟨b, 2, none⟩ = some z ∧ (∀ o, w.frozen? ⟨b, o, none⟩ = false) ∧ b < w.heap.size :=
  ⟨h.cell 0, h.cell 1, h.cell 2, h.frozen, h.lt⟩
end Go.Proofs.YtahpdkkpnkhnhaaGreatDoor

/- Walks: the law PathCleans. -/
namespace Go.Proofs.YtahpdkkpnkhnhaaGreatDoor
open Go Go.Proofs Go.RowKit Go.Shelf
theorem StE.any {w : World} {E : Int} {L : List Sx} {e : Ending} {w' : World} (h : StE w E L e w') (hE : E = 0) (hl : L.length ≤ 1000000000) : ∃ v, e = .returned (.tuple #[v, .int .i64 0]) ∧ Sl Sx.enc 3 w' w'.heap.size v L ∧ Below w.heap.size w w' := by
  subst hE; exact h.good hl
end Go.Proofs.YtahpdkkpnkhnhaaGreatDoor

/- Walks: the law PathStates. -/
namespace Go.Proofs.YtahpdkkpnkhnhaaGreatDoor
open Go Go.Proofs Go.RowKit Go.Shelf
theorem InE.bad {w : World} {E : Int} {L : List Int} {e : Ending} {w' : World} (h : InE w E L e w') (hE : E ≠ 0) : ∃ a c, e = .returned (.tuple #[.slice a 0 c, .int .i64 E]) ∧ Below w.heap.size w w' := by
  obtain ⟨v, rfl, ho, hb⟩ := h
  rw [if_pos hE] at ho
  obtain ⟨a, c, e⟩ := ho.shape
  exact ⟨a, c, by rw [e]; rfl, hb⟩
theorem InE.good {w : World} {L : List Int} {e : Ending} {w' : World} (h : InE w 0 L e w') (hl : L.length ≤ 1000000000) : ∃ v, e = .returned (.tuple #[v, .int .i64 0]) ∧ Sl encI 1 w' w'.heap.size v L ∧ Below w.heap.size w w' := by
  obtain ⟨v, rfl, ho, hb⟩ := h
  rw [if_neg (by simp)] at ho
  exact ⟨v, rfl, ho.toSl encI_len hl, hb⟩
theorem EmptyPost.st {w : World} {p : Pl} {e : Ending} {w' : World} (h : EmptyPost w p e w') : StE w (ckPlant p) (emptyS p.ms.length) e w' := h
end Go.Proofs.YtahpdkkpnkhnhaaGreatDoor
