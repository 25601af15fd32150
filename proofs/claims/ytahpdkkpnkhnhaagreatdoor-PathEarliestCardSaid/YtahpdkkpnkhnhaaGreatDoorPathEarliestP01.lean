/- Lemmas on the way to the law PathEarliest (part 1): Sa Sb Sc Sd Se Rf Rg -/
import Derived.Test.YtahpdkkpnkhnhaaGreatDoorLib16
import Derived.Test.YtahpdkkpnkhnhaaGreatDoorLib02
set_option linter.unusedVariables false
set_option linter.unusedSimpArgs false

/- Plain: tasks that meet; the starts that the reference tries. -/
namespace Go.Proofs.YtahpdkkpnkhnhaaGreatDoor
open Go Go.Proofs Go.RowKit Go.Shelf
theorem useF_at {p : Pl} {run : Int} : ∀ {l : List Int} {h : Int}, l.Nodup → ∀ {i : Nat} (hi : i < l.length), useF p run h l l[i] = some (h + tSum p (l.take i), run + tAt p l[i])
  | [], _, _, i, hi => by simp at hi
  | x :: r, h, hn, 0, _ => by simp [useF, tSum]
  | x :: r, h, hn, i + 1, hi => by
    have hn' := List.nodup_cons.1 hn
    have hi' : i < r.length := by simpa using hi
    have hne : r[i] ≠ x := fun e => hn'.1 (by rw [← e]; exact List.getElem_mem hi')
    rw [List.getElem_cons_succ, useF, if_neg hne, useF_at hn'.2 hi']
    simp only [List.take_succ_cons, tSum, Int.add_assoc]
def meetK (p : Pl) (a b : Tk) (s t : Int) (i k : Nat) : Bool :=
  (a.path.getD i 0 == b.path.getD k 0) && (decide (s + tSum p (a.path.take i) < t + tSum p (b.path.take k) + b.run + tAt p (a.path.getD i 0)) && decide (t + tSum p (b.path.take k) < s + tSum p (a.path.take i) + a.run + tAt p (a.path.getD i 0)))
def meetB (p : Pl) (a b : Tk) (s t : Int) : Bool := (List.range a.path.length).any fun i => (List.range b.path.length).any fun k => meetK p a b s t i k
theorem meetB_iff {p : Pl} {a b : Tk} {s t : Int} : meetB p a b s t = true ↔ ∃ i k, i < a.path.length ∧ k < b.path.length ∧ meetK p a b s t i k = true := by
  unfold meetB
  simp only [List.any_eq_true, List.mem_range]
  constructor
  · rintro ⟨i, hi, k, hk, h⟩; exact ⟨i, k, hi, hk, h⟩
  · rintro ⟨i, k, hi, hk, h⟩; exact ⟨i, hi, k, hk, h⟩
theorem getD_geI {l : List Int} {k : Nat} (h : k < l.length) : l.getD k 0 = l[k] := by rw [List.getD_eq_getElem?_getD, List.getElem?_eq_getElem h]; rfl
theorem barK_at {p : Pl} {t o : Tk} (ht : t.path.Nodup) (ho : o.path.Nodup) (so : Int) {i k : Nat} (hi : i < o.path.length) (hk : k < t.path.length) (e : o.path[i] = t.path[k]) :
    barK (useF p t.run 0 t.path) (useF p o.run 0 o.path) so o.path[i] = some ⟨so + (0 + tSum p (o.path.take i)) - (0 + tSum p (t.path.take k)) - (t.run + tAt p t.path[k]) + 1, so + (0 + tSum p (o.path.take i)) + (o.run + tAt p o.path[i]) - 1 - (0 + tSum p (t.path.take k))⟩ := by
  unfold barK
  rw [useF_at ho hi, e, useF_at ht hk]
theorem mem_bar {p : Pl} {t o : Tk} (ht : t.path.Nodup) (ho : o.path.Nodup) {so : Int} {x : Ar} (h : x ∈ barO (useF p t.run 0 t.path) (useF p o.run 0 o.path) so o.path) :
    ∃ i k, ∃ (hi : i < o.path.length) (hk : k < t.path.length), o.path[i] = t.path[k] ∧ x = ⟨so + (0 + tSum p (o.path.take i)) - (0 + tSum p (t.path.take k)) - (t.run + tAt p t.path[k]) + 1, so + (0 + tSum p (o.path.take i)) + (o.run + tAt p o.path[i]) - 1 - (0 + tSum p (t.path.take k))⟩ := by
  unfold barO at h
  obtain ⟨m, hm, hb⟩ := List.mem_filterMap.1 h
  obtain ⟨i, hi, rfl⟩ := List.mem_iff_getElem.1 hm
  have hmt : o.path[i] ∈ t.path := by
    rw [← useF_some (p := p) (run := t.run) (h := 0)]
    unfold barK at hb
    cases hq : useF p t.run 0 t.path o.path[i] with
    | none => rw [hq] at hb; cases hb
    | some a => rfl
  obtain ⟨k, hk, e⟩ := List.mem_iff_getElem.1 hmt
  rw [barK_at ht ho so hi hk e.symm] at hb
  exact ⟨i, k, hi, hk, e.symm, (Option.some.inj hb).symm⟩
theorem hit_iff {p : Pl} {t o : Tk} (ht : t.path.Nodup) (ho : o.path.Nodup) (so s : Int) : meetB p o t so s = true ↔ ∃ x ∈ barO (useF p t.run 0 t.path) (useF p o.run 0 o.path) so o.path, x.fr ≤ s ∧ s ≤ x.to := by
  rw [meetB_iff]
  constructor
  · rintro ⟨i, k, hi, hk, h⟩
    unfold meetK at h
    rw [getD_geI hi, getD_geI hk] at h
    simp only [Bool.and_eq_true, beq_iff_eq, decide_eq_true_eq] at h
    obtain ⟨e, h1, h2⟩ := h
    refine ⟨_, List.mem_filterMap.2 ⟨o.path[i], List.getElem_mem hi, barK_at ht ho so hi hk e⟩, ?_⟩
    dsimp only
    rw [← e]
    omega
  · rintro ⟨x, hx, h⟩
    obtain ⟨i, k, hi, hk, e, rfl⟩ := mem_bar ht ho hx
    refine ⟨i, k, hi, hk, ?_⟩
    unfold meetK
    rw [getD_geI hi, getD_geI hk]
    simp only [Bool.and_eq_true, beq_iff_eq, decide_eq_true_eq]
    dsimp only at h
    rw [← e] at h
    exact ⟨e, by omega, by omega⟩
theorem bound_ex : ∀ xs : List Ar, ∃ M : Nat, ∀ x ∈ xs, x.to < M
  | [] => ⟨0, by simp⟩
  | x :: r => by
    obtain ⟨M, hM⟩ := bound_ex r
    refine ⟨M + (x.to.toNat + 1), fun y hy => ?_⟩
    rcases List.mem_cons.1 hy with rfl | hy
    · omega
    · have := hM y hy; omega
theorem least_ex (xs : List Ar) : ∃ s, Least xs s := by
  obtain ⟨M, hM⟩ := bound_ex xs
  obtain ⟨n, h1, h2⟩ := least_exists (fun n : Nat => ∀ x ∈ xs, ¬ (x.fr ≤ (n : Int) ∧ (n : Int) ≤ x.to)) ⟨M, fun x hx h => by have := hM x hx; omega⟩
  refine ⟨n, by omega, h1, fun t h3 h4 => ?_⟩
  obtain ⟨k, rfl⟩ : ∃ k : Nat, t = k := ⟨t.toNat, by omega⟩
  refine Classical.byContradiction fun h5 => ?_
  have := h2 k fun x hx hh => h5 ⟨x, hx, hh⟩
  omega
theorem sched_ex (p : Pl) (ts : List Tk) : ∀ n, ∃ outs : List Int, outs.length = n ∧ SchedR p ts outs
  | 0 => ⟨[], rfl, fun k hk => by simp at hk⟩
  | n + 1 => by
    obtain ⟨outs, h1, h2⟩ := sched_ex p ts n
    obtain ⟨s, hs⟩ := least_ex (barsT p ts outs outs.length outs.length)
    exact ⟨outs ++ [s], by simp [h1], h2.snoc hs⟩
def lenT (p : Pl) (ts : List Tk) (outs : List Int) : Nat → Int
  | 0 => 0
  | k + 1 => max (lenT p ts outs k) (outs.getD k 0 + (ts.getD k tk0).run + tSum p (ts.getD k tk0).path)
end Go.Proofs.YtahpdkkpnkhnhaaGreatDoor
/- Walks: Meet of the reference. -/
namespace Go.Proofs.YtahpdkkpnkhnhaaGreatDoor
open Go Go.Proofs Go.RowKit Go.Shelf
theorem Box.t3 {w : World} {b : Nat} {e : TypeId} {x y z : Value} (h : Box w b e [x, y, z]) : w.cell? ⟨b, 0, none⟩ = some x ∧ w.cell? ⟨b, 1, none⟩ = some y ∧ w.cell? ⟨b, 2, none⟩ = some z ∧ (∀ o, w.frozen? ⟨b, o, none⟩ = false) ∧ b < w.heap.size :=
  ⟨h.cell 0, h.cell 1, h.cell 2, h.frozen, h.lt⟩
end Go.Proofs.YtahpdkkpnkhnhaaGreatDoor
/- Walks: behind of the reference. -/
namespace Go.Proofs.YtahpdkkpnkhnhaaGreatDoor
open Go Go.Proofs Go.RowKit Go.Shelf
def BehPost (w : World) (l : List Int) (e : Ending) (w' : World) : Prop := ∃ v, e = .returned v ∧ Own encI 1 3 w' w.heap.size v l ∧ Below w.heap.size w w'
end Go.Proofs.YtahpdkkpnkhnhaaGreatDoor
/- Walks: Schedule of the reference. -/
namespace Go.Proofs.YtahpdkkpnkhnhaaGreatDoor
open Go Go.Proofs Go.RowKit Go.Shelf
theorem sched_bd {p : Pl} {ts : List Tk} {outs : List Int} (hp : OkP p) (ht : ∀ t ∈ ts, OkT p t) (hl : outs.length ≤ ts.length) (h : SchedR p ts outs) : ∀ i, i < outs.length → 0 ≤ outs.getD i 0 ∧ outs.getD i 0 ≤ 10000000 * ((i : Int) + 1) := by
  intro i
  induction i using Nat.strongRecOn with
  | _ i ih =>
    intro hi
    have hL := h i hi
    refine ⟨hL.nn, ?_⟩
    by_cases h0 : outs.getD i 0 ≤ 0
    · omega
    · obtain ⟨x, hx, h1, h2⟩ := hL.low (outs.getD i 0 - 1) (by omega) (by omega)
      have := barsT_bd (outs := outs) (k := i) (n := i) hp ht (by omega) (by omega) (fun j hj => ih j hj (by omega)) x hx
      omega
end Go.Proofs.YtahpdkkpnkhnhaaGreatDoor
/- Walks: CheckSchedule of the reference. -/
namespace Go.Proofs.YtahpdkkpnkhnhaaGreatDoor
open Go Go.Proofs Go.RowKit Go.Shelf
def badS (s : Int) : Bool := decide (s < 0) || decide (999999999 < s)
def metB (p : Pl) (ts : List Tk) (st : List Int) (n : Nat) : Bool := (List.range n).any fun i => (List.range i).any fun k => meetB p (ts.getD k tk0) (ts.getD i tk0) (st.getD k 0) (st.getD i 0)
def ckSch (p : Pl) (ts : List Tk) (st : List Int) : Int := if st.length ≠ ts.length then 2 else if st.any badS then 3 else if metB p ts st ts.length then 16 else 0
theorem metB_iff {p : Pl} {ts : List Tk} {st : List Int} {n : Nat} : metB p ts st n = true ↔ ∃ i k, i < n ∧ k < i ∧ meetB p (ts.getD k tk0) (ts.getD i tk0) (st.getD k 0) (st.getD i 0) = true := by
  unfold metB
  simp only [List.any_eq_true, List.mem_range]
  constructor
  · rintro ⟨i, hi, k, hk, h⟩; exact ⟨i, k, hi, hk, h⟩
  · rintro ⟨i, k, hi, hk, h⟩; exact ⟨i, hi, k, hk, h⟩
theorem getD_mem0 {T : List Int} {x : Nat} (h : x < T.length) : T.getD x 0 ∈ T := by
  rw [getD_geI h]; exact List.getElem_mem h
theorem badS_of {s : Int} (h : badS s = false) : 0 ≤ s ∧ s ≤ 999999999 := by
  unfold badS at h
  simp only [Bool.or_eq_false_iff, decide_eq_false_iff_not] at h
  omega
structure SchK (p : Pl) (ts : List Tk) (st : List Int) (R : Int) : Prop where
  ne : st.length ≠ ts.length → R = 2
  bad : st.length = ts.length → ∀ s ∈ st, badS s = true → R = 3
  met : st.length = ts.length → (∀ s ∈ st, badS s = false) → ∀ i k, i < ts.length → k < i → meetB p (ts.getD k tk0) (ts.getD i tk0) (st.getD k 0) (st.getD i 0) = true → R = 16
  ok : st.length = ts.length → (∀ s ∈ st, badS s = false) → (∀ i k, i < ts.length → k < i → meetB p (ts.getD k tk0) (ts.getD i tk0) (st.getD k 0) (st.getD i 0) = false) → R = 0
theorem schK (p : Pl) (ts : List Tk) (st : List Int) : SchK p ts st (ckSch p ts st) := by
  refine ⟨fun h => ?_, fun h s hs hb => ?_, fun h ho i k hi hk hm => ?_, fun h ho hm => ?_⟩
  · unfold ckSch; rw [if_pos h]
  · unfold ckSch; rw [if_neg (by simpa using h), if_pos (List.any_eq_true.2 ⟨s, hs, hb⟩)]
  · unfold ckSch
    rw [if_neg (by simpa using h), if_neg (by simpa using ho), if_pos (metB_iff.2 ⟨i, k, hi, hk, hm⟩)]
  · unfold ckSch
    rw [if_neg (by simpa using h), if_neg (by simpa using ho), if_neg]
    intro h1
    obtain ⟨i, k, hi, hk, h2⟩ := metB_iff.1 h1
    rw [hm i k hi hk] at h2; cases h2
end Go.Proofs.YtahpdkkpnkhnhaaGreatDoor
/- A region that draws its order: quiet operations, then a call that all others wait for or are waited for by, then quiet operations in whatever order. -/
namespace Go
open Go.RowKit
section
variable {P : Program} {ops : Array Oper} {C : World → Prop}
structure SameW (W : World) where
  w : World
  h : w = W
instance (W : World) : Nonempty (SameW W) := ⟨⟨W, rfl⟩⟩
theorem SameW.cell {W : World} (X : SameW W) (b o : Nat) : X.w.cell? ⟨b, o, none⟩ = W.cell? ⟨b, o, none⟩ := by rw [X.h]
attribute [go_sem] SameW.cell
end
end Go
/- A region that draws its order, in which one operation calls a function that makes memory of its own: the operations that do not look at its answer come before it or behind it, those that do behind it; all but the call are quiet. -/
namespace Go
open Go.RowKit
section
def selF (f : Nat → Bool) : Nat → List Oper → List Oper
  | _, [] => []
  | k, o :: r => if f k then o :: selF f (k + 1) r else selF f (k + 1) r
theorem selF_mem (f : Nat → Bool) : ∀ (l : List Oper) (k : Nat) (o : Oper), o ∈ selF f k l → ∃ j, l[j]? = some o ∧ f (k + j) = true
  | [], _, _, h => by simp [selF] at h
  | x :: r, k, o, h => by
    unfold selF at h
    have hr : ∀ (h : o ∈ selF f (k + 1) r), ∃ j, (x :: r)[j]? = some o ∧ f (k + j) = true := fun h => by
      obtain ⟨j, h1, h2⟩ := selF_mem f r (k + 1) o h
      exact ⟨j + 1, by simpa using h1, by rw [show k + (j + 1) = k + 1 + j by omega]; exact h2⟩
    split at h
    · rename_i hf
      rcases List.mem_cons.1 h with rfl | h
      · exact ⟨0, rfl, by simpa using hf⟩
      · exact hr h
    · exact hr h
theorem selF_split (f : Nat → Bool) : ∀ (l : List Oper) (k i : Nat) (o : Oper), l[i]? = some o → f (k + i) = true →
    ∃ pre post, selF f k l = pre ++ o :: post ∧ (∀ p ∈ pre, ∃ j, j < i ∧ l[j]? = some p ∧ f (k + j) = true) ∧ (∀ j p, j < i → l[j]? = some p → f (k + j) = true → p ∈ pre)
  | [], _, i, o, h, _ => by simp at h
  | x :: r, k, 0, o, h, hf => by
    obtain rfl : x = o := by simpa using h
    unfold selF
    rw [if_pos (by simpa using hf)]
    exact ⟨[], _, rfl, by simp, fun j p hj => by omega⟩
  | x :: r, k, i + 1, o, h, hf => by
    obtain ⟨pre, post, h1, h2, h3⟩ := selF_split f r (k + 1) i o (by simpa using h) (by rw [show k + 1 + i = k + (i + 1) by omega]; exact hf)
    have h2' : ∀ p ∈ pre, ∃ j, j < i + 1 ∧ (x :: r)[j]? = some p ∧ f (k + j) = true := fun p hp => by
      obtain ⟨j, a1, a2, a3⟩ := h2 p hp
      exact ⟨j + 1, by omega, by simpa using a2, by rw [show k + (j + 1) = k + 1 + j by omega]; exact a3⟩
    unfold selF
    by_cases hx : f k = true
    · rw [if_pos hx, h1]
      refine ⟨x :: pre, post, rfl, fun p hp => ?_, fun j p hj hp hfj => ?_⟩
      · rcases List.mem_cons.1 hp with rfl | hp
        · exact ⟨0, by omega, rfl, by simpa using hx⟩
        · exact h2' p hp
      · cases j with
        | zero => obtain rfl : x = p := by simpa using hp
                  simp
        | succ j => exact List.mem_cons_of_mem _ (h3 j p (by omega) (by simpa using hp) (by rw [show k + 1 + j = k + (j + 1) by omega]; exact hfj))
    · rw [if_neg hx, h1]
      refine ⟨pre, post, rfl, h2', fun j p hj hp hfj => ?_⟩
      cases j with
      | zero => exact absurd (by simpa using hfj) hx
      | succ j => exact h3 j p (by omega) (by simpa using hp) (by rw [show k + 1 + j = k + (j + 1) by omega]; exact hfj)
theorem selF_pair (f : Nat → Bool) {R : Oper → Oper → Prop} : ∀ (l : List Oper) (k : Nat), (∀ (i j : Nat) (x y : Oper), i < j → l[i]? = some x → l[j]? = some y → R x y) → (selF f k l).Pairwise R
  | [], _, _ => by simp [selF]
  | x :: r, k, h => by
    have ih := selF_pair f r (k + 1) fun i j a b hij ha hb => h (i + 1) (j + 1) a b (by omega) (by simpa using ha) (by simpa using hb)
    unfold selF
    split
    · refine List.pairwise_cons.2 ⟨fun y hy => ?_, ih⟩
      obtain ⟨j, h1, _⟩ := selF_mem f r (k + 1) y hy
      exact h 0 (j + 1) x y (by omega) rfl (by simpa using h1)
    · exact ih
def Region.partB (ops : Array Oper) (b : Nat) (T : Nat → Bool) : Bool :=
  Region.noSelect ops && decide (b < ops.size) && !T b &&
  ((List.range ops.size).all fun i => match ops[i]? with | some o => o.after.all fun e => !Region.binds .any e || decide (e.on < i) | none => true) &&
  ((List.range ops.size).all fun i => (List.range ops.size).all fun j => Region.flowPair ops i j) &&
  (match ops[b]? with | some o => o.guard.isNone | none => false) &&
  ((List.range ops.size).all fun i => T i || ((List.range ops.size).all fun j => !(T j || j == b) || (i == b && j == b) || Region.blindTo ops i j)) &&
  ((List.range ops.size).all fun i => !T i || (List.range ops.size).any fun k => (k == b || T k) && Region.waitsFor .any ops i k)
structure PartFlow (ops : Array Oper) (b : Nat) (T : Nat → Bool) (ob : Oper) (W : World) (a0 A1 : Act) (A2 : Value → Act) (D : Value → World → Prop) (listed : Array Bool) (a : Act) (w : World) (v : Value) : Prop where
  lsize : listed.size = ops.size
  later : Below W.heap.size W w
  size : a.tmps.size = a0.tmps.size
  defers : a.defers = a0.defers
  slot : ∀ (j : Nat) (o : Oper) (t : Nat), ops[j]? = some o → o.dst = some t → j ≠ b → a.tmps[t]? = if listed.getD j false = true then (if T j then (A2 v).tmps[t]? else A1.tmps[t]?) else a0.tmps[t]?
  slotb : ∀ t, ob.dst = some t → a.tmps[t]? = if listed.getD b false = true then a0.tmps[t]?.map (fun _ => v) else a0.tmps[t]?
  other : ∀ t, (∀ (j : Nat) (o : Oper), ops[j]? = some o → o.dst ≠ some t) → a.tmps[t]? = a0.tmps[t]?
  tb : ∀ k, T k = true → listed.getD k false = true → listed.getD b false = true
  box : listed.getD b false = true → D v w
variable {P : Program} {l : List Oper} {b : Nat} {T : Nat → Bool} {ob : Oper} {W : World} {a0 A1 : Act} {A2 : Value → Act} {D : Value → World → Prop} {Q : Exit → Act → World → Prop}
theorem part_run (hB : Region.partB l.toArray b T = true) (hob : l[b]? = some ob)
    (hq : ∀ Y : Later W, wpQuiet P l.toArray (fun w' => ∃ X : Later2 Y, w' = X.w) (fun a' => a' = A1) (selF (fun i => !T i && !(i == b)) 0 l) a0)
    (hb : ∀ w, Below W.heap.size W w → ∃ fn args, (execOp A1.eval ob).run P w = .ok (.enter fn args) w ∧ Calls P fn args w fun e w' => ∃ v, e = .returned v ∧ D v w' ∧ Below w.heap.size w w')
    (hBp : ∀ v w w', D v w → Below w.heap.size w w' → D v w')
    (hqT : ∀ v w, Below W.heap.size W w → D v w → wpQuiet P l.toArray (fun w' => ∃ X : Later w, w' = X.w) (fun a' => a' = A2 v) (selF T 0 l) (A1.put ob.dst v))
    (ht : ∀ v w, Below W.heap.size W w → D v w → Q .normal (A2 v) w) :
    ∀ (f : Nat) (U : List Nat) (listed : Array Bool) (a : Act) (w : World) (vb : Value), U.length = f → U.Nodup → (∀ i, i ∈ U ↔ i < l.toArray.size ∧ listed.getD i false = false) →
      PartFlow l.toArray b T ob W a0 A1 A2 D listed a w vb → wpAny P .any l.toArray Q f listed a w := by
  simp only [Region.partB, Bool.and_eq_true, decide_eq_true_eq, List.all_eq_true, List.mem_range, Bool.not_eq_true'] at hB
  obtain ⟨⟨⟨⟨⟨⟨⟨hsel, hbn⟩, hTb⟩, hedge⟩, hpair⟩, hguard⟩, hblind⟩, hTw⟩ := hB
  have hget : ∀ i : Nat, l.toArray[i]? = l[i]? := fun i => by simp
  have hselect := Region.noSelect_spec hsel
  have hlt : ∀ {i : Nat} {o : Oper}, l.toArray[i]? = some o → i < l.toArray.size := fun h => (Array.getElem?_eq_some_iff.1 h).1
  have hobA : l.toArray[b]? = some ob := by rw [hget]; exact hob
  have hdist : ∀ {i j : Nat} {x y : Oper}, l.toArray[i]? = some x → l.toArray[j]? = some y → i ≠ j → ∀ t, x.dst = some t → y.dst ≠ some t := fun hi hj hne t hd =>
    Region.flowPair_dst (hpair _ (hlt hi) _ (hlt hj)) hi hj hne hd
  have hpw : ∀ g : Nat → Bool, (selF g 0 l).Pairwise (fun o o' => ∀ t, o.dst = some t → o'.dst ≠ some t) := fun g =>
    selF_pair g l 0 fun i j x y hij hx hy => hdist (by rw [hget]; exact hx) (by rw [hget]; exact hy) (by omega)
  have hHm : ∀ o, o ∈ selF (fun i => !T i && !(i == b)) 0 l → ∃ j : Nat, l.toArray[j]? = some o ∧ T j = false ∧ j ≠ b := fun o ho => by
    obtain ⟨j, h1, h2⟩ := selF_mem _ l 0 o ho
    simp only [Nat.zero_add, Bool.and_eq_true, Bool.not_eq_true', beq_eq_false_iff_ne] at h2
    exact ⟨j, by rw [hget]; exact h1, h2.1, h2.2⟩
  have hTm : ∀ o, o ∈ selF T 0 l → ∃ j : Nat, l.toArray[j]? = some o ∧ T j = true := fun o ho => by
    obtain ⟨j, h1, h2⟩ := selF_mem _ l 0 o ho
    rw [Nat.zero_add] at h2
    exact ⟨j, by rw [hget]; exact h1, h2⟩
  have hA := quiet_text _ _ (hq ⟨W, Below.refl _ _⟩) (hpw _)
  have hAo : ∀ t, (∀ (j : Nat) (o : Oper), l.toArray[j]? = some o → T j = false → j ≠ b → o.dst ≠ some t) → A1.tmps[t]? = a0.tmps[t]? := fun t h => hA.1 t fun o ho => by
    obtain ⟨j, h1, h2, h3⟩ := hHm o ho
    exact h j o h1 h2 h3
  have hAs := hA.2.1
  have hAd := hA.2.2.1
  have hTT := fun (v : Value) (w : World) (h1 : Below W.heap.size W w) (h2 : D v w) => quiet_text _ _ (hqT v w h1 h2) (hpw T)
  have hTo : ∀ v w, Below W.heap.size W w → D v w → ∀ t, (∀ (j : Nat) (o : Oper), l.toArray[j]? = some o → T j = true → o.dst ≠ some t) → (A2 v).tmps[t]? = (A1.put ob.dst v).tmps[t]? := fun v w h1 h2 t h => (hTT v w h1 h2).1 t fun o ho => by
    obtain ⟨j, h3, h4⟩ := hTm o ho
    exact h j o h3 h4
  intro f
  induction f with
  | zero =>
    intro U listed a w vb hU _ hUm hF
    obtain rfl : U = [] := List.eq_nil_of_length_eq_zero hU
    have hall : ∀ i, i < l.toArray.size → listed.getD i false = true := fun i hi => by
      cases h : listed.getD i false with
      | true => rfl
      | false => have := (hUm i).2 ⟨hi, h⟩; simp at this
    have hbt := hall b hbn
    have hD := hF.box hbt
    refine ⟨?_, ?_⟩
    · rw [List.eq_nil_iff_forall_not_mem]
      intro j hj
      obtain ⟨h1, o, ho, _⟩ := mem_ready.1 hj
      have h2 := hall j (hlt ho)
      rw [getD_both h1] at h2; cases h2
    have ha : a = A2 vb := by
      have hTs := hTT vb w hF.later hD
      have htm : a.tmps = (A2 vb).tmps := by
        apply Array.ext_getElem?
        intro t
        by_cases hbd : ob.dst = some t
        · have e1 := hTo vb w hF.later hD t fun j o h1 h2 h3 => hdist hobA h1 (fun e => by subst e; rw [hTb] at h2; cases h2) t hbd h3
          rw [e1, put_get, if_pos hbd, hF.slotb t hbd, if_pos hbt, hAo t fun j o h1 _ h3 h4 => hdist hobA h1 (Ne.symm h3) t hbd h4]
        · by_cases h : ∃ (j : Nat) (o : Oper), l.toArray[j]? = some o ∧ o.dst = some t
          · obtain ⟨j, o, h2, h3⟩ := h
            have hjb : j ≠ b := fun e => by subst e; rw [hobA] at h2; cases h2; exact hbd h3
            rw [hF.slot j o t h2 h3 hjb, if_pos (hall j (hlt h2))]
            cases hTj : T j with
            | true => rfl
            | false =>
              have e1 := hTo vb w hF.later hD t fun j' o' h1' h2' h3' => hdist h2 h1' (fun e => by subst e; rw [hTj] at h2'; cases h2') t h3 h3'
              rw [e1, put_get, if_neg hbd]; rfl
          · have h' : ∀ (j : Nat) (o : Oper), l.toArray[j]? = some o → o.dst ≠ some t := fun j o h2 h3 => h ⟨j, o, h2, h3⟩
            rw [hF.other t h', hTo vb w hF.later hD t fun j o h1 _ => h' j o h1, put_get, if_neg hbd, hAo t fun j o h1 _ _ => h' j o h1]
      have hd : a.defers = (A2 vb).defers := by rw [hTs.2.2.1, put_defers, hAd, hF.defers]
      cases a; simp only at htm hd; cases hX : A2 vb; rw [hX] at htm hd; simp only at htm hd; rw [htm, hd]
    rw [ha]
    exact ht vb w hF.later hD
  | succ f ih =>
    intro U listed a w vb hU hnd hUm hF
    obtain ⟨i0, hi0, hleast⟩ := exists_leastM U (fun e => by rw [e] at hU; simp at hU)
    obtain ⟨hi0n, hi0u⟩ := (hUm i0).1 hi0
    have hin : ∀ i, i < l.toArray.size → i < listed.size := fun i hi => by rw [hF.lsize]; exact hi
    have hready : i0 ∈ Region.ready .any l.toArray listed := by
      refine mem_ready.2 ⟨getD_in (hin _ hi0n) hi0u, l.toArray[i0], Array.getElem?_eq_getElem hi0n, fun e he hbd => ?_⟩
      have h1 := hedge i0 hi0n
      rw [Array.getElem?_eq_getElem hi0n] at h1
      simp only [Array.all_eq_true_iff_forall_mem] at h1
      have h2 := h1 e he
      simp only [hbd, Bool.not_true, Bool.false_or, decide_eq_true_eq] at h2
      cases h : listed.getD e.on false with
      | true => rfl
      | false =>
        have := hleast e.on ((hUm e.on).2 ⟨by omega, h⟩)
        omega
    refine ⟨fun h => (by rw [h] at hready; cases hready), fun i hi => ?_⟩
    obtain ⟨hiu, o, ho, hdep⟩ := mem_ready.1 hi
    have hilt := hlt ho
    have hiU : i ∈ U := (hUm i).2 ⟨hilt, getD_both hiu⟩
    have hlist : ∀ j, (listed.setIfInBounds i true).getD j false = if j = i then true else listed.getD j false := fun j => by
      by_cases h : j = i
      · subst h; rw [if_pos rfl]; simp [hin j hilt]
      · rw [if_neg h, getD_set_ne false (Ne.symm h)]
    have hUm' : ∀ j, j ∈ U.erase i ↔ j < l.toArray.size ∧ (listed.setIfInBounds i true).getD j false = false := fun j => by
      rw [hnd.mem_erase_iff, hUm j, hlist j]
      by_cases h : j = i
      · simp [h]
      · simp [h]
    have hlen' : (U.erase i).length = f := by rw [List.length_erase_of_mem hiU]; omega
    have hnd' := hnd.erase i
    have hls' : (listed.setIfInBounds i true).size = l.toArray.size := by simp [hF.lsize]
    have hseen : ∀ t ∈ o.looksAt l.toArray, ∀ (j : Nat) (oj : Oper), l.toArray[j]? = some oj → oj.dst = some t → i ≠ j ∧ j < i ∧ listed.getD j false = true := by
      intro t ht j oj hoj hd
      have hne : i ≠ j := fun e => by
        subst e
        rw [ho] at hoj; cases hoj
        exact Region.flowPair_self (hpair i hilt i hilt) ho hd ht
      have h1 := Region.flowPair_looks (hpair i hilt j (hlt hoj)) ho hoj hne hd ht
      obtain ⟨o', ho', e, he, hbd, hon⟩ := Region.waitsFor_spec h1.2
      rw [ho] at ho'; cases ho'
      have := hdep e he hbd
      rw [hon] at this
      exact ⟨hne, h1.1, this⟩
    have hblin : T i = false → ∀ t ∈ o.looksAt l.toArray, ∀ (j : Nat) (oj : Oper), l.toArray[j]? = some oj → oj.dst = some t → T j = false ∧ (i = b ∨ j ≠ b) := fun hTi t ht j oj hoj hd => by
      have h1 := hblind i hilt
      rw [Bool.or_eq_true] at h1
      have h2 := List.all_eq_true.1 (h1.resolve_left (by rw [hTi]; simp)) j (List.mem_range.2 (hlt hoj))
      simp only [Bool.or_eq_true, Bool.not_eq_true', Bool.or_eq_false_iff, Bool.and_eq_true, beq_iff_eq, beq_eq_false_iff_ne] at h2
      rcases h2 with (h2 | h2) | h2
      · exact ⟨h2.1, .inr h2.2⟩
      · exact ⟨by rw [h2.2]; exact hTb, .inl h2.1⟩
      · exact absurd ht (Region.blindTo_spec h2 ho hoj hd)
    by_cases hib : i = b
    · subst hib
      rw [hobA] at ho; cases ho
      have hg : ob.guard = none := by rw [hobA] at hguard; simpa using hguard
      obtain ⟨fn, args, hrun, hcall⟩ := hb w hF.later
      have hex : execOp a.eval ob = execOp A1.eval ob := (seen_alike (ops := l.toArray) (fun cs bb => hselect i ob cs bb hobA) fun t htl => by
        by_cases h : ∃ (j : Nat) (o : Oper), l.toArray[j]? = some o ∧ o.dst = some t
        · obtain ⟨j, oj, h2, h3⟩ := h
          obtain ⟨k1, k2, k3⟩ := hseen t htl j oj h2 h3
          rw [hF.slot j oj t h2 h3 (Ne.symm k1), if_pos k3, (hblin hTb t htl j oj h2 h3).1]; rfl
        · have h' : ∀ (j : Nat) (o : Oper), l.toArray[j]? = some o → o.dst ≠ some t := fun j o h2 h3 => h ⟨j, o, h2, h3⟩
          rw [hF.other t h', hAo t fun j o h1 _ _ => h' j o h1]).1
      unfold wpOp
      simp only [hobA]
      rw [if_pos (by simp [Region.wanted, hg])]
      refine .inl ?_
      unfold Oper.wp
      rw [hex, hrun, Oper.upon_enter]
      refine hcall.mono ?_
      rintro _ w' ⟨v', rfl, hbox, hbel⟩
      refine ih (U.erase i) _ _ _ v' hlen' hnd' hUm' ⟨hls', hF.later.trans (hbel.mono hF.later.size), by rw [put_size, hF.size], by rw [put_defers, hF.defers], ?_, ?_, ?_, ?_, fun _ => hbox⟩
      · intro j oj t hoj hd hjb
        have hne : ob.dst ≠ some t := fun h => hdist hobA hoj (Ne.symm hjb) t h hd
        rw [put_get, if_neg hne, hF.slot j oj t hoj hd hjb, hlist j, if_neg hjb]
        by_cases hTj : T j = true
        · have hjn : listed.getD j false = false := by
            cases h : listed.getD j false with
            | false => rfl
            | true => have := hF.tb j hTj h; rw [getD_both hiu] at this; cases this
          rw [if_neg (by rw [hjn]; simp), if_neg (by rw [hjn]; simp)]
        · rw [if_neg hTj, if_neg hTj]
      · intro t hd
        rw [put_get, if_pos hd, hlist i, if_pos rfl, if_pos rfl, hF.slotb t hd, if_neg (by rw [getD_both hiu]; simp)]
      · intro t h
        rw [put_get, if_neg (h i ob hobA), hF.other t h]
      · intro k _ _
        rw [hlist i, if_pos rfl]
    · have hol : l[i]? = some o := by rw [← hget]; exact ho
      cases hTi : T i with
      | false =>
        obtain ⟨pre, post, hsplit, hpre1, hpre2⟩ := selF_split (fun i => !T i && !(i == b)) l 0 i o hol (by rw [Nat.zero_add]; simp [hTi, hib])
        obtain ⟨_, _, _, htext⟩ := quiet_text _ _ (hq ⟨w, hF.later⟩) (hpw _)
        obtain ⟨ai, v, hy, t1, t2, t3⟩ := htext _ o _ hsplit
        have hal := seen_alike (ops := l.toArray) (o := o) (a := a) (a' := ai) (fun cs bb => hselect i o cs bb ho) fun t htl => by
          by_cases h : ∃ (j : Nat) (o : Oper), l.toArray[j]? = some o ∧ o.dst = some t
          · obtain ⟨j, oj, h2, h3⟩ := h
            obtain ⟨k1, k2, k3⟩ := hseen t htl j oj h2 h3
            obtain ⟨hTj, hjb⟩ := hblin hTi t htl j oj h2 h3
            have hjb := hjb.resolve_left hib
            rw [hF.slot j oj t h2 h3 hjb, if_pos k3, hTj]
            refine (t1 t ⟨oj, hpre2 j oj k2 (by rw [← hget]; exact h2) (by rw [Nat.zero_add]; simp [hTj, hjb]), h3⟩).symm
          · have h' : ∀ (j : Nat) (o : Oper), l.toArray[j]? = some o → o.dst ≠ some t := fun j o h2 h3 => h ⟨j, o, h2, h3⟩
            rw [hF.other t h']
            refine (t2 t fun p hp => ?_).symm
            obtain ⟨j, _, h2, _⟩ := hpre1 p hp
            exact h' j p (by rw [hget]; exact h2)
        have hy' := hy.of_same hal.1 hal.2
        have hqo := hy'.qOp (K := fun a' => a' = a.put o.dst v) ho rfl
        refine wpOp_of_qOp ⟨⟨w, Below.refl _ _⟩, rfl⟩ ?_ hqo
        rintro a' w' ⟨X, rfl⟩ rfl
        have hX := X.h
        refine ih (U.erase i) _ _ _ vb hlen' hnd' hUm' ⟨hls', hF.later.trans (hX.mono hF.later.size), by rw [put_size, hF.size], by rw [put_defers, hF.defers], ?_, ?_, ?_, ?_, ?_⟩
        · intro j oj t hoj hd hjb
          rw [put_get, hlist j]
          by_cases hji : j = i
          · subst hji
            rw [ho] at hoj; cases hoj
            rw [if_pos hd, if_pos rfl, if_pos rfl, hTi, hF.slot j o t ho hd hjb, if_neg (by rw [getD_both hiu]; simp)]
            exact (t3 t hd).symm
          · have hne : o.dst ≠ some t := fun h => hdist ho hoj (Ne.symm hji) t h hd
            rw [if_neg hne, if_neg hji, hF.slot j oj t hoj hd hjb]
        · intro t hd
          have hne : o.dst ≠ some t := fun h => hdist ho hobA hib t h hd
          rw [put_get, if_neg hne, hF.slotb t hd, hlist b, if_neg (Ne.symm hib)]
        · intro t h
          rw [put_get, if_neg (h i o ho), hF.other t h]
        · intro k hk1 hk2
          rw [hlist k] at hk2
          have hki : k ≠ i := fun e => by subst e; rw [hTi] at hk1; cases hk1
          rw [if_neg hki] at hk2
          rw [hlist b, if_neg (Ne.symm hib)]
          exact hF.tb k hk1 hk2
        · intro h
          rw [hlist b, if_neg (Ne.symm hib)] at h
          exact hBp vb w _ (hF.box h) hX
      | true =>
        have hbt : listed.getD b false = true := by
          have h1 := hTw i hilt
          rw [Bool.or_eq_true] at h1
          obtain ⟨k, _, h2⟩ := List.any_eq_true.1 (h1.resolve_left (by rw [hTi]; simp))
          simp only [Bool.and_eq_true, Bool.or_eq_true, beq_iff_eq] at h2
          obtain ⟨o', ho', e, he, hbd, hon⟩ := Region.waitsFor_spec h2.2
          rw [ho] at ho'; cases ho'
          have h3 := hdep e he hbd
          rw [hon] at h3
          rcases h2.1 with rfl | h4
          · exact h3
          · exact hF.tb k h4 h3
        have hD := hF.box hbt
        obtain ⟨pre, post, hsplit, hpre1, hpre2⟩ := selF_split T l 0 i o hol (by rw [Nat.zero_add]; exact hTi)
        obtain ⟨_, _, _, htext⟩ := hTT vb w hF.later hD
        obtain ⟨ai, v, hy, t1, t2, t3⟩ := htext _ o _ hsplit
        have hpo : ∀ t, (∀ (j : Nat) (oj : Oper), l.toArray[j]? = some oj → T j = true → oj.dst ≠ some t) → ai.tmps[t]? = (A1.put ob.dst vb).tmps[t]? := fun t h => t2 t fun p hp => by
          obtain ⟨j, _, h2, h3⟩ := hpre1 p hp
          rw [Nat.zero_add] at h3
          exact h j p (by rw [hget]; exact h2) h3
        have hal := seen_alike (ops := l.toArray) (o := o) (a := a) (a' := ai) (fun cs bb => hselect i o cs bb ho) fun t htl => by
          by_cases hbd : ob.dst = some t
          · rw [hpo t fun j oj h1 h2 h3 => hdist hobA h1 (fun e => by subst e; rw [hTb] at h2; cases h2) t hbd h3, put_get, if_pos hbd, hF.slotb t hbd, if_pos hbt, hAo t fun j o h1 _ h3 h4 => hdist hobA h1 (Ne.symm h3) t hbd h4]
          · by_cases h : ∃ (j : Nat) (o : Oper), l.toArray[j]? = some o ∧ o.dst = some t
            · obtain ⟨j, oj, h2, h3⟩ := h
              obtain ⟨k1, k2, k3⟩ := hseen t htl j oj h2 h3
              have hjb : j ≠ b := fun e => by subst e; rw [hobA] at h2; cases h2; exact hbd h3
              rw [hF.slot j oj t h2 h3 hjb, if_pos k3]
              cases hTj : T j with
              | true => exact (t1 t ⟨oj, hpre2 j oj k2 (by rw [← hget]; exact h2) (by rw [Nat.zero_add]; exact hTj), h3⟩).symm
              | false =>
                rw [hpo t fun j' o' h1' h2' h3' => hdist h2 h1' (fun e => by subst e; rw [hTj] at h2'; cases h2') t h3 h3', put_get, if_neg hbd]; rfl
            · have h' : ∀ (j : Nat) (o : Oper), l.toArray[j]? = some o → o.dst ≠ some t := fun j o h2 h3 => h ⟨j, o, h2, h3⟩
              rw [hF.other t h', hpo t fun j o h1 _ => h' j o h1, put_get, if_neg hbd, hAo t fun j o h1 _ _ => h' j o h1]
        have hy' := hy.of_same hal.1 hal.2
        have hqo := hy'.qOp (K := fun a' => a' = a.put o.dst v) ho rfl
        refine wpOp_of_qOp ⟨⟨w, Below.refl _ _⟩, rfl⟩ ?_ hqo
        rintro a' w' ⟨X, rfl⟩ rfl
        have hX := X.h
        refine ih (U.erase i) _ _ _ vb hlen' hnd' hUm' ⟨hls', hF.later.trans (hX.mono hF.later.size), by rw [put_size, hF.size], by rw [put_defers, hF.defers], ?_, ?_, ?_, ?_, ?_⟩
        · intro j oj t hoj hd hjb
          rw [put_get, hlist j]
          by_cases hji : j = i
          · subst hji
            rw [ho] at hoj; cases hoj
            rw [if_pos hd, if_pos rfl, if_pos rfl, hTi, hF.slot j o t ho hd hjb, if_neg (by rw [getD_both hiu]; simp)]
            have e1 := t3 t hd
            have hbd : ob.dst ≠ some t := fun h => hdist hobA ho (Ne.symm hjb) t h hd
            rw [put_get, if_neg hbd, hAo t fun j' o' h1 h2 h3 h4 => hdist ho h1 (fun e => by subst e; rw [hTi] at h2; cases h2) t hd h4] at e1
            exact e1.symm
          · have hne : o.dst ≠ some t := fun h => hdist ho hoj (Ne.symm hji) t h hd
            rw [if_neg hne, if_neg hji, hF.slot j oj t hoj hd hjb]
        · intro t hd
          have hne : o.dst ≠ some t := fun h => hdist ho hobA hib t h hd
          rw [put_get, if_neg hne, hF.slotb t hd, hlist b, if_neg (Ne.symm hib)]
        · intro t h
          rw [put_get, if_neg (h i o ho), hF.other t h]
        · intro k _ _
          rw [hlist b, if_neg (Ne.symm hib)]
          exact hbt
        · intro h
          rw [hlist b, if_neg (Ne.symm hib)] at h
          exact hBp vb w _ (hF.box h) hX
theorem wp_region_part {id : Nat} (b : Nat) (T : Nat → Bool) (ob : Oper) (D : Value → World → Prop) (hm : P.follows .mixedOrders = true) (hB : Region.partB l.toArray b T = true) (hob : l[b]? = some ob)
    (hBp : ∀ v w w', D v w → Below w.heap.size w w' → D v w')
    (hh : ∃ A1, (∀ Y : Later W, wpQuiet P l.toArray (fun w' => ∃ X : Later2 Y, w' = X.w) (fun a' => a' = A1) (selF (fun i => !T i && !(i == b)) 0 l) a0) ∧
      (∀ w, Below W.heap.size W w → ∃ fn args, (execOp A1.eval ob).run P w = .ok (.enter fn args) w ∧ Calls P fn args w fun e w' => ∃ v, e = .returned v ∧ D v w' ∧ Below w.heap.size w w') ∧
        ∃ A2 : Value → Act, (∀ v w, Below W.heap.size W w → D v w → wpQuiet P l.toArray (fun w' => ∃ X : Later w, w' = X.w) (fun a' => a' = A2 v) (selF T 0 l) (A1.put ob.dst v)) ∧
          ∀ v w, Below W.heap.size W w → D v w → Q .normal (A2 v) w) :
    (Code.region id l.toArray true).wp P Q a0 W := by
  obtain ⟨A1, hq, hb, A2, hqT, ht⟩ := hh
  refine wp_region_any hm ?_
  exact part_run (W := W) (a0 := a0) (A1 := A1) (A2 := A2) (D := D) (Q := Q) hB hob hq hb hBp hqT ht l.toArray.size (List.range l.toArray.size) (Array.replicate l.toArray.size false) a0 { W with drawn := W.drawn + 1 } undef (by simp) List.nodup_range (fun i => by rw [List.mem_range]; exact ⟨fun h => ⟨h, getD_replicate_false _ _⟩, fun h => h.1⟩)
    ⟨by simp, ⟨rfl, rfl, rfl, Nat.le_refl _, fun _ _ => rfl⟩, rfl, rfl, fun j o t _ _ _ => by rw [getD_replicate_false]; rfl, fun t _ => by rw [getD_replicate_false]; rfl, fun _ _ => rfl, fun k _ h => (by rw [getD_replicate_false] at h; cases h), fun h => by rw [getD_replicate_false] at h; cases h⟩
theorem wp_region_partG {id : Nat} (b : Nat) (T : Nat → Bool) (ob : Oper) (D : Value → World → Prop) (G : Act → Value → Act) (hm : P.follows .mixedOrders = true) (hB : Region.partB l.toArray b T = true) (hob : l[b]? = some ob)
    (hBp : ∀ v w w', D v w → Below w.heap.size w w' → D v w')
    (hh : ∃ A1, (∀ Y : Later W, wpQuiet P l.toArray (fun w' => ∃ X : Later2 Y, w' = X.w) (fun a' => a' = A1) (selF (fun i => !T i && !(i == b)) 0 l) a0) ∧
      (∀ w, Below W.heap.size W w → ∃ fn args, (execOp A1.eval ob).run P w = .ok (.enter fn args) w ∧ Calls P fn args w fun e w' => ∃ v, e = .returned v ∧ D v w' ∧ Below w.heap.size w w') ∧
        (∀ v w, Below W.heap.size W w → D v w → wpQuiet P l.toArray (fun w' => ∃ X : Later w, w' = X.w) (fun a' => a' = G A1 v) (selF T 0 l) (A1.put ob.dst v)) ∧
          ∀ v w, Below W.heap.size W w → D v w → Q .normal (G A1 v) w) :
    (Code.region id l.toArray true).wp P Q a0 W := by
  obtain ⟨A1, hq, hb, hqT, ht⟩ := hh
  exact wp_region_part b T ob D hm hB hob hBp ⟨A1, hq, hb, G A1, hqT, ht⟩
end
end Go
