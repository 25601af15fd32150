/- Lemmas on the way to the law PathCleans (part 6): Rf Ne Oa Sa Sb -/
import Derived.Test.YtahpdkkpnkhnhaaGreatDoorLib02
import Derived.Test.YtahpdkkpnkhnhaaGreatDoorPathCleansP05
import Derived.Test.YtahpdkkpnkhnhaaGreatDoorLib16
set_option linter.unusedVariables false
set_option linter.unusedSimpArgs false

/- A region that draws its order: quiet operations, then a call that all others wait for or are waited for by, then quiet operations in whatever order. -/
namespace Go
open Go.RowKit
section
variable {P : Program} {ops : Array Oper} {C : World → Prop}
def Region.chainW (ops : Array Oper) (n : Nat) : Bool := (List.range ops.size).all fun t => decide (t ≤ n) || (List.range ops.size).any fun j => decide (n ≤ j) && Region.waitsFor .any ops t j
def Region.midB (ops : Array Oper) (n : Nat) (listed : Array Bool) : Bool := decide (Region.ready .any ops listed = [n]) && Region.lexFrom .any ops (ops.size - n - 1) (n + 1) (listed.setIfInBounds n true)
def Region.lexHead3 (ops : Array Oper) (n : Nat) : Nat → Nat → Array Bool → Bool
  | 0, _, listed => Region.midB ops n listed
  | f + 1, k, listed => (Region.ready .any ops listed).contains k && Region.free .any ops listed k && Region.lexHead3 ops n f (k + 1) (listed.setIfInBounds k true)
def Region.lexThreeB (ops : Array Oper) (n : Nat) : Bool :=
  Region.noSelect ops && decide (n < ops.size) && Region.sinkB .any ops n && Region.chainW ops n && Region.lexHead3 ops n n 0 (Array.replicate ops.size false)
/-- This world. -/
structure SameW (W : World) where
  w : World
  h : w = W
instance (W : World) : Nonempty (SameW W) := ⟨⟨W, rfl⟩⟩
theorem SameW.cell {W : World} (X : SameW W) (b o : Nat) : X.w.cell? ⟨b, o, none⟩ = W.cell? ⟨b, o, none⟩ := by rw [X.h]
attribute [go_sem] SameW.cell
theorem midB_ready {n : Nat} {listed : Array Bool} (h : Region.midB ops n listed = true) : ∀ j ∈ Region.ready .any ops listed, n ≤ j := by
  intro j hj
  simp only [Region.midB, Bool.and_eq_true, decide_eq_true_eq] at h
  rw [h.1] at hj
  have : j = n := by simpa using hj
  omega
/-- Where the middle operation may come up, all before it have. -/
theorem heads_listed {n : Nat} {listed : Array Bool} (hs : Region.sinkB .any ops n = true) (inv : HeadInv .any ops n listed) (hr : n ∈ Region.ready .any ops listed) : ∀ k i, n ≤ i + k → i < n → listed.getD i false = true
  | 0, i, h, hi => by omega
  | k + 1, i, h, hi => by
    obtain ⟨_, on, hon, hall⟩ := mem_ready.1 hr
    obtain ⟨j, hj, hw⟩ := List.any_eq_true.1 (List.all_eq_true.1 hs i (List.mem_range.2 hi))
    rw [Bool.and_eq_true, decide_eq_true_eq] at hw
    have hj := List.mem_range.1 hj
    obtain ⟨oj, ho, e, he, hb, hi'⟩ := Region.waitsFor_spec hw.2
    rcases Nat.lt_or_ge j n with hjn | hjn
    · rw [← hi']
      exact inv.closed j oj ho (heads_listed hs inv hr k j (by omega) hjn) e he hb
    · obtain rfl : j = n := by omega
      rw [hon] at ho
      obtain rfl := Option.some.inj ho
      rw [← hi']
      exact hall e he hb
theorem tail_waits3 {n : Nat} (hs : Region.sinkB .any ops n = true) (hc : Region.chainW ops n = true) (listed : Array Bool) (inv : HeadInv .any ops n listed) (i : Nat) (hi : i < n) (hun : listed.getD i true = false) (t : Nat) (ht : n ≤ t) : t ∉ Region.ready .any ops listed := fun hr => by
  rcases Nat.eq_or_lt_of_le ht with rfl | hlt
  · have := heads_listed hs inv hr n i (by omega) hi
    rw [getD_both hun] at this; cases this
  · obtain ⟨_, ot, hot, hall⟩ := mem_ready.1 hr
    have h1 := List.all_eq_true.1 hc t (List.mem_range.2 (Array.getElem?_eq_some_iff.1 hot).1)
    rw [Bool.or_eq_true, decide_eq_true_eq] at h1
    obtain ⟨j, hj, hw⟩ := List.any_eq_true.1 (h1.resolve_left (by omega))
    rw [Bool.and_eq_true, decide_eq_true_eq] at hw
    obtain ⟨ot', hot', e, he, hb, hon⟩ := Region.waitsFor_spec hw.2
    rw [hot] at hot'
    obtain rfl := Option.some.inj hot'
    have h2 := hall e he hb
    rw [hon, getD_both (inv.tail j hw.1 (List.mem_range.1 hj))] at h2
    cases h2
theorem headQ_first3 {n i : Nat} {oi : Oper} {v : Value} {L : Array Bool → Act → Prop} (hi : ops[i]? = some oi) (hsel : ∀ (j : Nat) (o : Oper) cs b, ops[j]? = some o → o.op ≠ .select cs b)
    (hT : ∀ listed, HeadInv .any ops n listed → ∀ i, i < n → listed.getD i true = false → ∀ t, n ≤ t → t ∉ Region.ready .any ops listed) (hin : i < n)
    (hdone : ∀ listed a, L listed a → ∀ j ∈ Region.ready .any ops listed, n ≤ j) (f : Nat) :
    ∀ (listed : Array Bool) (a : Act), HeadInv .any ops n listed →
      (∀ j oj, ops[j]? = some oj → j ≠ i → listed.getD j true = false → (∀ e ∈ oj.after, Region.binds .any e = true → e.on ≠ i) → oi.apart ops oj = true) →
      i ∈ Region.ready .any ops listed → YieldsIn P ops C oi v a →
      headQ P .any ops C n L f (listed.setIfInBounds i true) (a.put oi.dst v) → headQ P .any ops C n L (f + 1) listed a := by
  induction f with
  | zero =>
    intro listed a inv _ hr hy H
    have hun := (mem_ready.1 hr).1
    refine ⟨fun h => (by rw [h] at hr; cases hr), fun j hj => ?_⟩
    have hjn : j < n := Nat.lt_of_not_le fun h => hT _ inv i hin hun j h hj
    by_cases hji : j = i
    · subst hji; exact ⟨hjn, hy.qOp hi H⟩
    · exact absurd (hdone _ _ H j (ready_mono hj hji)) (by omega)
  | succ f ih =>
    intro listed a inv hfree hr hy H
    have hun := (mem_ready.1 hr).1
    refine ⟨fun h => (by rw [h] at hr; cases hr), fun j hj => ?_⟩
    have hjn : j < n := Nat.lt_of_not_le fun h => hT _ inv i hin hun j h hj
    by_cases hji : j = i
    · subst hji; exact ⟨hjn, hy.qOp hi H⟩
    · have h1 := (H.2 j (ready_mono hj hji)).2
      obtain ⟨hjun, oj, hoj, hall⟩ := mem_ready.1 hj
      have hnot : ∀ e ∈ oj.after, Region.binds .any e = true → e.on ≠ i := fun e he hb heq => by
        have h1 := hall e he hb
        rw [heq, getD_both hun] at h1
        cases h1
      have h2 := qOp_put hoj (hfree j oj hoj hji hjun hnot) (fun cs b => hsel i oi cs b hi) (fun cs b => hsel j oj cs b hoj) hy h1
      refine ⟨hjn, qOp_mono (fun a' h3 => ih (listed.setIfInBounds j true) a' (inv.set hj hjn) (fun k ok hk hki hk0 hno => hfree k ok hk hki ?_ hno) (ready_mono hr (Ne.symm hji)) h3.1 ?_) h2⟩
      · by_cases hjk : j = k
        · subst hjk; exact hjun
        · rw [getD_set_ne true hjk] at hk0; exact hk0
      · rw [Array.setIfInBounds_comm _ _ hji]; exact h3.2
theorem headQ_lex3 {n : Nat} {Lq : Act → Prop} (hsel : Region.noSelect ops = true) (hT : ∀ listed, HeadInv .any ops n listed → ∀ i, i < n → listed.getD i true = false → ∀ t, n ≤ t → t ∉ Region.ready .any ops listed) :
    ∀ (l : List Oper) (k : Nat) (listed : Array Bool) (a : Act), (∀ j, j < l.length → l[j]? = ops[k + j]?) → k + l.length = n → HeadInv .any ops n listed →
    Region.lexHead3 ops n l.length k listed = true → wpQuiet P ops C Lq l a →
    headQ P .any ops C n (fun listed' a' => Region.midB ops n listed' = true ∧ Lq a') l.length listed a
  | [], _, _, _, _, _, _, hB, h => ⟨hB, h⟩
  | o :: l, k, listed, a, hl, hk, inv, hB, h => by
    have h0 : ops[k]? = some o := by simpa using (hl 0 (by simp)).symm
    simp only [List.length_cons, Region.lexHead3, Bool.and_eq_true] at hB
    obtain ⟨⟨hr, hf⟩, hB'⟩ := hB
    have hkn : k < n := by simp only [List.length_cons] at hk; omega
    have hr' : k ∈ Region.ready .any ops listed := by simpa using hr
    have hst : qOp P ops C k (wpQuiet P ops C Lq l) a := by unfold qOp; simp only [h0]; exact h
    obtain ⟨v, hy, hK⟩ := yieldsIn_of_qOp h0 hst
    exact headQ_first3 h0 (Region.noSelect_spec hsel) hT hkn (fun listed' a' hL => midB_ready hL.1) l.length listed a inv (Region.free_spec h0 hf) hr' hy
      (headQ_lex3 hsel hT l (k + 1) _ _ (fun j hj => by have := hl (j + 1) (by simp; omega); simpa [Nat.add_assoc, Nat.add_comm 1 j] using this) (by simp only [List.length_cons] at hk; omega) (inv.set hr' hkn) hB' hK)
/-- The rule. -/
theorem wp_region_three {id : Nat} {Q : Exit → Act → World → Prop} {a : Act} {w : World} {l : List Oper} (n : Nat) (o : Oper) (ho : l[n]? = some o) (hg : o.guard = none) (hm : P.follows .mixedOrders = true) (hB : Region.lexThreeB l.toArray n = true)
    (hC : C { w with drawn := w.drawn + 1 })
    (h : wpQuiet P l.toArray C (fun a' => ∀ w', C w' → ∃ fn args, (execOp a'.eval o).run P w' = .ok (.enter fn args) w' ∧ Calls P fn args w' fun e w'' => ∃ v, e = .returned v ∧ wpQuiet P l.toArray (fun x => ∃ X : SameW w'', x = X.w) (fun a3 => Q .normal a3 w'') (l.drop (n + 1)) (a'.put o.dst v)) (l.take n) a) : (Code.region id l.toArray true).wp P Q a w := by
  simp only [Region.lexThreeB, Bool.and_eq_true, decide_eq_true_eq] at hB
  obtain ⟨⟨⟨⟨hsel, hn⟩, hs⟩, hc⟩, hlex⟩ := hB
  have hn' : n < l.length := by simpa using hn
  have htl : (l.take n).length = n := by simp; omega
  have hdl : (l.drop (n + 1)).length = l.toArray.size - n - 1 := by simp; omega
  have inv0 : HeadInv .any l.toArray n (Array.replicate l.toArray.size false) :=
    ⟨by simp, fun j oj _ hl => (by rw [getD_replicate_false] at hl; cases hl), fun t _ ht => getD_in (by simpa using ht) (getD_replicate_false _ _)⟩
  have H := headQ_lex3 (C := C) hsel (tail_waits3 hs hc) (l.take n) 0 _ a (fun j hj => by
    have hj' : j < n := by rw [htl] at hj; exact hj
    simp [hj']) (by simpa using htl) inv0 (by rw [htl]; exact hlex) h
  refine wp_region_any hm ?_
  have := wpAny_of_headQ (Q' := Q) (g := l.toArray.size - n - 1 + 1) (fun listed a' w' hw' hL => by
    obtain ⟨hmid, hL⟩ := hL
    simp only [Region.midB, Bool.and_eq_true, decide_eq_true_eq] at hmid
    refine ⟨fun h0 => (by rw [hmid.1] at h0; cases h0), fun i hi => ?_⟩
    rw [hmid.1] at hi
    obtain rfl : i = n := by simpa using hi
    obtain ⟨fn, args, hrun, hcall⟩ := hL w' hw'
    have hoa : l.toArray[i]? = some o := by simpa using ho
    unfold wpOp
    simp only [hoa]
    rw [if_pos (by simp [Region.wanted, hg])]
    refine .inl ?_
    unfold Oper.wp
    rw [hrun, Oper.upon_enter]
    refine hcall.mono ?_
    rintro _ w'' ⟨v, rfl, hq⟩
    have hq2 := wpAnyQ_lex (P := P) (md := .any) (ops := l.toArray) (C := fun x => ∃ X : SameW w'', x = X.w) (Q := fun a3 => Q .normal a3 w'') hsel (l.drop (i + 1)) (i + 1) (listed.setIfInBounds i true) _ (fun j => by simp [List.getElem?_drop]) (by rw [hdl]; exact hmid.2) hq
    rw [hdl] at hq2
    exact wpAny_of_quiet (C := fun x => ∃ X : SameW w'', x = X.w) (fun a3 w3 h3 hq => by obtain ⟨X, rfl⟩ := h3; rw [X.h]; exact hq) _ _ _ _ ⟨⟨w'', rfl⟩, rfl⟩ hq2) _ _ _ _ hC H
  rw [htl, show n + (l.toArray.size - n - 1 + 1) = l.toArray.size by omega] at this
  exact this
/-- At the class 'w after some draws'. -/
theorem wp_region_three_drew {id : Nat} {Q : Exit → Act → World → Prop} {a : Act} {w : World} {l : List Oper} (n : Nat) (o : Oper) (ho : l[n]? = some o) (hg : o.guard = none) (hm : P.follows .mixedOrders = true) (hB : Region.lexThreeB l.toArray n = true)
    (h : wpQuiet P l.toArray (fun w' => ∃ n, w' = w.drewN n) (fun a' => ∀ w', (∃ n, w' = w.drewN n) → ∃ fn args, (execOp a'.eval o).run P w' = .ok (.enter fn args) w' ∧ Calls P fn args w' fun e w'' => ∃ v, e = .returned v ∧ wpQuiet P l.toArray (fun x => ∃ X : SameW w'', x = X.w) (fun a3 => Q .normal a3 w'') (l.drop (n + 1)) (a'.put o.dst v)) (l.take n) a) : (Code.region id l.toArray true).wp P Q a w :=
  wp_region_three n o ho hg hm hB ⟨1, rfl⟩ h
end
end Go

/- Walks: Few; a command. -/
namespace Go.Proofs.YtahpdkkpnkhnhaaGreatDoor
open Go Go.Proofs Go.RowKit Go.Shelf
def fewB (p : Pl) (n : Int) : Bool := decide ((p.ms.length : Int) ≤ n) && ckPlant p == 0
set_option maxRecDepth 100000 in
set_option maxHeartbeats 1000000 in
theorem few67 (w : World) (v1 v2 : Value) (p : Pl) (n : Int) (hv : PlR w w.heap.size v1 v2 p) : Calls Tryz.prog 67 #[.agg #[v1, v2], .int .i64 n] w (Ret (.bool (fewB p n)) w) := by
  have HC := Lib.hid (fun (w1 : World) (hb : Below w.heap.size w w1) => ckPlant19 w1 _ _ p (hv.later hb))
  obtain ⟨a1, n1, a2, n2, rfl, rfl⟩ := hv.agg
  clear hv
  have HB := Lib.hid ((Below.refl w.heap.size w).alloc (Nat.le_refl _) (.cells #[.slice a1 p.ms.length n1, .slice a2 p.arcs.length n2] 25))
  have HX := Lib.hid (Box.new w #[.slice a1 p.ms.length n1, .slice a2 p.arcs.length n2] 25)
  obtain ⟨R, hR⟩ : ∃ R, fewB p n = R := ⟨_, rfl⟩
  rw [hR]
  unfold fewB at hR
  have HR := Lib.hid hR
  clear hR
  obtain ⟨m, hm⟩ : ∃ n, p.ms.length = n := ⟨_, rfl⟩
  obtain ⟨k, hk⟩ : ∃ n, p.arcs.length = n := ⟨_, rfl⟩
  obtain ⟨ck, hck⟩ : ∃ n, ckPlant p = n := ⟨_, rfl⟩
  rw [hm] at HB HX HC HR ⊢
  rw [hk] at HB HX HC ⊢
  rw [hck] at HC HR
  clear hm hk hck
  cases hq : decide ((m : Int) ≤ n) with
  | false =>
    rw [hq] at HR
    go_enter Tryz.func67, Tryz.ntmps67
    go_wp2_with fail
    go_ret
    exact ⟨by rw [← HR.out]; rfl, HB.out⟩
  | true =>
    rw [hq, Bool.true_and] at HR
    go_enter Tryz.func67, Tryz.ntmps67
    go_wp2_with fail
    refine (HC.out _ HB.out).mono ?_
    rintro e w2 ⟨rfl, hb⟩
    have HB2 := Lib.hid (HB.out.trans (hb.mono HB.out.size))
    go_wp2_with fail
    go_ret
    exact ⟨by rw [← HR.out]; rfl, HB2.out⟩
theorem StE.two {w W1 w' : World} {E : Int} {st : List Sx} {e : Ending} {Q : Ending → World → Prop} (h : StE W1 E st e w') (hb : Below w.heap.size w W1) (hQ : StE w E st = Q) : ∃ v c, e = .returned (.tuple #[v, .int .i64 c]) ∧ Q e w' := by
  subst hQ
  obtain ⟨v, rfl, ho, hb'⟩ := h
  exact ⟨v, E, rfl, v, rfl, ho.lower hb.size, hb.trans (hb'.mono hb.size)⟩
end Go.Proofs.YtahpdkkpnkhnhaaGreatDoor

/- Plain: what the law PathCleans asks. -/
namespace Go.Proofs.YtahpdkkpnkhnhaaGreatDoor
open Go Go.Proofs Go.RowKit Go.Shelf
theorem kn_binW (s : ByteArray) : (kn s = 1) ↔ (s.toList == [98, 105, 110]) = true := by
  have e : (s.toList == [98, 105, 110]) = isW s 1 := rfl
  rw [e, kn_eq]
  cases h1 : isW s 1 with
  | true => rw [isW_no (by omega) h1 (show 0 < 8 by omega) (by omega)]; simp
  | false =>
    generalize isW s 0 = b0
    generalize isW s 2 = b2
    generalize isW s 3 = b3
    generalize isW s 4 = b4
    generalize isW s 5 = b5
    generalize isW s 6 = b6
    generalize isW s 7 = b7
    revert b0 b2 b3 b4 b5 b6 b7
    decide
theorem SzR.at_ {S : List Sx} (h : ∀ x : Nat, x < S.length → (sAt S x).grain.size ≤ 9223372036854775807) : SzR S := by
  intro s hs
  obtain ⟨k, hk, rfl⟩ := List.mem_iff_getElem.1 hs
  have := h k hk
  rw [sAt, stGet hk] at this
  exact this
theorem SzR.get {S : List Sx} (h : SzR S) {x : Nat} : (sAt S x).grain.size ≤ 9223372036854775807 := by
  by_cases hx : x < S.length
  · rw [sAt, stGet hx]; exact h _ (List.getElem_mem hx)
  · unfold sAt
    rw [List.getD_eq_getElem?_getD, List.getElem?_eq_none (by omega)]
    show (s0).grain.size ≤ _
    decide
section
variable {p : Pl} {st S : List Sx} {l : List Int} {g : ByteArray} {cl : Bool}
theorem StartV.sz (A : StartV p st S l g) (hl : PaV p l) (hz : SzR st) (hg : g.size ≤ 9223372036854775807) : SzR S := by
  refine SzR.at_ fun x _ => ?_
  rcases hl.cases x with ⟨k, hk, rfl⟩ | hx0
  · have e := A.grain k hk
    unfold nAt at e
    rw [e]
    split
    · exact hg
    · exact hz.get
  · rw [A.off x hx0]; exact hz.get
theorem StopV.sz (A : StopV p st S l cl) (hl : PaV p l) (hz : SzR st) : SzR S := by
  refine SzR.at_ fun x _ => ?_
  rcases hl.cases x with ⟨k, hk, rfl⟩ | hx0
  · have e := A.grain k hk
    unfold nAt at e
    rw [e]
    split
    · decide
    · exact hz.get
  · rw [A.off x hx0]; exact hz.get
theorem FltV.sz {m : Nat} (A : FltV st S m) (hz : SzR st) : SzR S := by
  refine SzR.at_ fun x hx => ?_
  rw [A.len] at hx
  rw [(A.feeds hx).2.1]; exact hz.get
theorem ResV.sz (A : ResV p st S l) (hz : SzR st) : SzR S := by
  refine SzR.at_ fun x hx => ?_
  rw [A.grain]; exact hz.get
end
/-- All that the law PathCleans asks. -/
structure ClnF (p : Pl) (st : List Sx) (l : List Int) (g : ByteArray) (S C D A : List Sx) : Prop where
  cE : cleanE p S l = 0
  sE : stopE p S l = 0
  aE : startE p D l g = 0
  same : sameB A S = true
  lenS : S.length = st.length
  lenC : C.length = st.length
  lenD : D.length = st.length
  lenA : A.length = st.length
  szS : SzR S
  szD : SzR D
  at_ : ∀ x : Nat, x < st.length → (sAt C x).runs = (sAt st x).runs ∧ (sAt C x).feeds = (sAt st x).feeds ∧
    (sAt C x).grain.toList = (if (l.contains (x : Int) && cvB (kdA p x)) = true then (⟨#[]⟩ : ByteArray) else if ((x : Int) == l.getD (l.length - 1) 0 && ((kdA p x).toList == [98, 105, 110])) = true then g else (sAt st x).grain).toList
  flt : ∀ k : Nat, 0 < k → k + 1 < l.length → faultE p S (l.getD k 0) = 0 ∧ ∀ F, offL S (upL S (l.getD k 0) S.length ++ [l.getD k 0]) = F → F.length = st.length ∧ SzR F ∧ stopE p F l = 0 ∧ (resumeTo p l F l.length).length = st.length ∧ sameB (resumeTo p l F l.length) S = true ∧ cleanE p F l = 26
theorem ckS_pl {p : Pl} {st : List Sx} (h : ckState p st = 0) : ckPlant p = 0 := by
  unfold ckState at h
  split at h
  · rename_i h1; exact absurd h h1
  · rename_i h1; exact Decidable.not_not.1 h1
theorem startE_ok {p : Pl} {st : List Sx} {l : List Int} {g : ByteArray} (hl : PaV p l) (h : startE p st l g = 0) : isName g = true ∧ ∀ k, k < l.length → StK p st g k (nAt l k) := by
  unfold startE at h
  split at h
  · rename_i h1; exact absurd h h1
  · split at h
    · cases h
    · rename_i h2
      exact ⟨by simpa using h2, (startL_iff hl).1 h⟩
theorem setE_z {p : Pl} {st : List Sx} {l : List Int} (h1 : ckState p st = 0) (h2 : pathE p l = 0) : setE p st l = 0 := by
  unfold setE
  rw [if_neg (by rw [h1]; simp)]; exact h2
theorem stopE_z {p : Pl} {st : List Sx} {l : List Int} (h1 : ckState p st = 0) (h2 : pathE p l = 0) (h3 : setB st l = true) : stopE p st l = 0 := by
  unfold stopE
  rw [if_neg (by rw [setE_z h1 h2]; simp), if_pos h3]
theorem cln_of {p : Pl} {st : List Sx} {l : List Int} {g : ByteArray} (hck : ckState p st = 0) (hpe : pathE p l = 0) (hst : startE p st l g = 0) (hz : SzR st) (hg : g.size ≤ 9223372036854775807) :
    ClnF p st l g (startTo p l g st l.length) (stopTo p l true (startTo p l g st l.length) l.length) (stopTo p l false (startTo p l g st l.length) l.length) (startTo p l g (stopTo p l false (startTo p l g st l.length) l.length) l.length) := by
  have hok := (ckState_ok hck).1
  have hckp := ckS_pl hck
  have hv := StV.of hck
  have hl := PaV.of hpe
  obtain ⟨hnm, hs⟩ := startE_ok hl hst
  have A0 := StartV.of hok hv hl hs
  generalize startTo p l g st l.length = S at *
  have hvS := A0.valid hok hv hl hs hnm
  have ckS := hvS.ck hckp
  have zS := A0.sz hl hz hg
  have hset := A0.set hl
  have hfd := (setB_at hl).1 hset
  have B := StopV.of hvS hl false
  generalize stopTo p l false S l.length = D at *
  have hvD := B.valid hvS hl hfd
  have ckD := hvD.ck hckp
  have hsD := A0.restart B hok hv hl hs hnm
  have E := StartV.of hok hvD hl hsD
  generalize startTo p l g D l.length = A at *
  have C0 := StopV.of hvS hl true
  generalize stopTo p l true S l.length = C at *
  refine ⟨?_, stopE_z ckS hpe hset, ?_, A0.again B E hv hl, A0.len, C0.len.trans A0.len, B.len.trans A0.len, E.len.trans (B.len.trans A0.len), zS, B.sz hl zS, fun x hx => ?_, fun k hk0 hk1 => ?_⟩
  · unfold cleanE
    rw [if_neg (by rw [setE_z ckS hpe]; simp), hset, A0.runsB hl]; rfl
  · unfold startE
    rw [if_neg (by rw [setE_z ckD hpe]; simp), if_neg (by rw [hnm]; simp)]
    exact (startL_iff hl).2 hsD
  · obtain ⟨e1, e2, e3⟩ := A0.cleaned C0 hok hv hl hs x (by rw [← hv.len]; exact hx)
    refine ⟨e1, e2, e3.trans ?_⟩
    have i1 : ((l.contains (x : Int) && cvB (kdA p x)) = true) ↔ ((x : Int) ∈ l ∧ cvB (kdA p x) = true) := by simp
    have i2 : (((x : Int) == l.getD (l.length - 1) 0 && ((kdA p x).toList == [98, 105, 110])) = true) ↔ ((x : Int) = l.getD (l.length - 1) 0 ∧ kn (kdA p x) = 1) := by
      rw [Bool.and_eq_true, kn_binW]; simp
    by_cases h1 : (x : Int) ∈ l ∧ cvB (kdA p x) = true
    · rw [if_pos h1, if_pos (i1.2 h1), noB_list]
    · rw [if_neg h1, if_neg (fun h => h1 (i1.1 h))]
      by_cases h2 : (x : Int) = l.getD (l.length - 1) 0 ∧ kn (kdA p x) = 1
      · rw [if_pos h2, if_pos (i2.2 h2)]
      · rw [if_neg h2, if_neg (fun h => h2 (i2.1 h))]
  · obtain ⟨ek, hkn⟩ := hl.nat (by omega : k < l.length)
    have hc := hl.inner k hk0 hk1
    refine ⟨?_, fun F hF => ?_⟩
    · unfold faultE
      rw [if_neg (by rw [ckS]; simp), if_pos, if_pos hc]
      rw [ek]
      unfold inN; simp only [Bool.and_eq_true, decide_eq_true_eq]; omega
    · rw [ek] at hF
      have G := FltV.of S (l.getD k 0).toNat
      rw [hF] at G
      have hvF := G.valid hok hvS
      have ckF := hvF.ck hckp
      have hsF := A0.fltSet G hv hl
      have R := ResV.of hvF hl
      refine ⟨G.len.trans A0.len, G.sz zS, stopE_z ckF hpe hsF, (R.len.trans G.len).trans A0.len, A0.back (by omega) G R hok hv hl hs, ?_⟩
      unfold cleanE
      rw [if_neg (by rw [setE_z ckF hpe]; simp), A0.fltRun (by omega) G hv hl hc, Bool.and_false]; rfl
end Go.Proofs.YtahpdkkpnkhnhaaGreatDoor

/- Plain: tasks that meet; the starts that the reference tries. -/
namespace Go.Proofs.YtahpdkkpnkhnhaaGreatDoor
open Go Go.Proofs Go.RowKit Go.Shelf
theorem getD_geI {l : List Int} {k : Nat} (h : k < l.length) : l.getD k 0 = l[k] := by rw [List.getD_eq_getElem?_getD, List.getElem?_eq_getElem h]; rfl
end Go.Proofs.YtahpdkkpnkhnhaaGreatDoor

/- Walks: Meet of the reference. -/
namespace Go.Proofs.YtahpdkkpnkhnhaaGreatDoor
open Go Go.Proofs Go.RowKit Go.Shelf
theorem Box.t3 {w : World} {b : Nat} {e : TypeId} {x y z : Value} (h : Box w b e [x, y, z]) : w.cell? ⟨b, 0, none⟩ = some x ∧ w.cell? ⟨b, 1, none⟩ = some y ∧ w.cell? ⟨b, 2, none⟩ = some z ∧ (∀ o, w.frozen? ⟨b, o, none⟩ = false) ∧ b < w.heap.size :=
  ⟨h.cell 0, h.cell 1, h.cell 2, h.frozen, h.lt⟩
end Go.Proofs.YtahpdkkpnkhnhaaGreatDoor
