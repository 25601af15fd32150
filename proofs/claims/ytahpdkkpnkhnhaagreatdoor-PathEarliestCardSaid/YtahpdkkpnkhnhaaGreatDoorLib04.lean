/- Lemmas on the way to the laws (part 4): Gx Aa Ab -/
import Derived.Test.YtahpdkkpnkhnhaaGreatDoorLib03
import Derived.Laws.OwnMore
import Derived.Laws.AppendOwnNone
import Derived.Deep.AppendSrc
import Derived.IntWalk
import Derived.RegionTactic
import Derived.BigRegion
set_option linter.unusedVariables false
set_option linter.unusedSimpArgs false

/- Slices that a call owns, more: joins, copies, lists of lists; what a call keeps. -/
namespace Go.Proofs.YtahpdkkpnkhnhaaGreatDoor
open Go Go.Proofs Go.RowKit

/-- What lay there lies there, but for the blocks in S. -/
structure Kept (S : Nat → Prop) (w w' : World) : Prop where
  os : w'.os = w.os
  tape : w'.tape = w.tape
  output : w'.output = w.output
  size : w.heap.size ≤ w'.heap.size
  block : ∀ k, k < w.heap.size → ¬ S k → w'.heap[k]? = w.heap[k]?
theorem Kept.refl (S : Nat → Prop) (w : World) : Kept S w w := ⟨rfl, rfl, rfl, Nat.le_refl _, fun _ _ _ => rfl⟩
theorem Kept.trans {S : Nat → Prop} {a b c : World} (h : Kept S a b) (k : Kept S b c) : Kept S a c :=
  ⟨k.os.trans h.os, k.tape.trans h.tape, k.output.trans h.output, Nat.le_trans h.size k.size, fun i hi hn => (k.block i (Nat.lt_of_lt_of_le hi h.size) hn).trans (h.block i hi hn)⟩
theorem Kept.grown {S : Nat → Prop} {w a b : World} {row : Option Nat} (h : Kept S w a) (hg : a.grownBy b row) (hr : ∀ k, row = some k → S k ∨ w.heap.size ≤ k) : Kept S w b :=
  ⟨hg.os.trans h.os, hg.tape.trans h.tape, hg.output.trans h.output, Nat.le_trans h.size hg.size, fun i hi hn => (hg.block i (Nat.lt_of_lt_of_le hi h.size) (fun e => by
    rcases hr i e.symm with h1 | h1
    · exact hn h1
    · omega)).trans (h.block i hi hn)⟩
theorem Kept.alloc {S : Nat → Prop} {w a : World} (h : Kept S w a) (o : Obj) : Kept S w (a.alloc o) := h.grown (World.grownBy_alloc a o none) (fun k e => by cases e)
theorem Kept.below {S : Nat → Prop} {w a b : World} (h : Kept S w a) (hb : Below a.heap.size a b) : Kept S w b :=
  h.grown (row := none) ⟨hb.os, hb.tape, hb.output, hb.size, fun k hk _ => hb.block k hk⟩ (fun k e => by cases e)
theorem grownBy_set (w : World) (a : Addr) (u : Value) : w.grownBy (w.setCell a u) (some a.block) :=
  ⟨rfl, rfl, rfl, by simp [World.setCell], fun k _ hk => heap_setCell_other w a k u (fun e => hk (by rw [e]))⟩
theorem Kept.set {S : Nat → Prop} {w a : World} (h : Kept S w a) {p : Addr} (u : Value) (hp : S p.block ∨ w.heap.size ≤ p.block) : Kept S w (a.setCell p u) :=
  h.grown (grownBy_set a p u) (fun k e => by cases e; exact hp)
theorem Kept.drew {S : Nat → Prop} {w a : World} (h : Kept S w a) : Kept S w a.drew := ⟨h.os, h.tape, h.output, h.size, h.block⟩
theorem Kept.toBelow {S : Nat → Prop} {w a : World} {B : Nat} (h : Kept S w a) (hB : B ≤ w.heap.size) (hS : ∀ k, S k → B ≤ k) : Below B w a :=
  ⟨h.os, h.tape, h.output, h.size, fun k hk => h.block k (by omega) (fun hs => by have := hS k hs; omega)⟩
theorem Box.grown {w w' : World} {b : Nat} {e : TypeId} {vs : List Value} {row : Option Nat} (h : Box w b e vs) (hg : w.grownBy w' row) (hne : some b ≠ row) : Box w' b e vs := h.kept hg hne
theorem Box.keeps {S : Nat → Prop} {w w' : World} {k : Nat} {e : TypeId} {vs : List Value} (h : Box w k e vs) (hk : Kept S w w') (hn : ¬ S k) : Box w' k e vs := (hk.block k h.lt hn).trans h
theorem Own.keeps {α : Type} {f : α → List Value} {sz : Nat} {e : TypeId} {w w' : World} {base : Nat} {v : Value} {l : List α} {S : Nat → Prop} (h : Own f sz e w base v l) (hk : Kept S w w') (hn : ∀ k, v.ownBlock = some k → ¬ S k) : Own f sz e w' base v l := by
  have h0 := h
  obtain ⟨h1, h2⟩ := h
  refine ⟨h1, ?_⟩
  rcases h2 with h2 | ⟨g, cap, cur, h2, h3, h4, h5⟩
  · exact .inl h2
  · have hg : g < w.heap.size := (Array.getElem?_eq_some_iff.1 h4).1
    refine .inr ⟨g, cap, cur, h2, h3, ?_, h5⟩
    rw [hk.block g hg (hn g (by rw [h2]; rfl))]; exact h4
theorem Own.two_types {α β : Type} {f : α → List Value} {f' : β → List Value} {sz sz' : Nat} {e e' : TypeId} {w : World} {base base' : Nat} {v v' : Value} {l : List α} {l' : List β} (h : Own f sz e w base v l) (h' : Own f' sz' e' w base' v' l') (hne : e' ≠ e) :
    ∀ k, v.ownBlock = some k → v'.ownBlock ≠ some k := fun k hk hk' => by
  rcases h'.2 with ⟨rfl, _⟩ | ⟨g, cap, cur, rfl, _, hg, _⟩
  · simp [Value.ownBlock] at hk'
  · obtain rfl : g = k := by simpa [Value.ownBlock] using hk'
    rcases h.2 with ⟨rfl, _⟩ | ⟨g', cap', cur', rfl, _, hg', _⟩
    · simp [Value.ownBlock] at hk
    · obtain rfl : g' = g := by simpa [Value.ownBlock] using hk
      rw [hg] at hg'
      cases hg'
      exact hne rfl
theorem Own.other_type {α : Type} {f : α → List Value} {sz : Nat} {e e' : TypeId} {w : World} {base : Nat} {v : Value} {l : List α} (h : Own f sz e w base v l) {k : Nat} {vs : List Value} (hb : Box w k e' vs) (hne : e' ≠ e) : v.ownBlock ≠ some k := fun he => by
  rcases h.2 with ⟨rfl, _⟩ | ⟨g, cap, cur, rfl, _, hg, _⟩
  · simp [Value.ownBlock] at he
  · obtain rfl : g = k := by simpa [Value.ownBlock] using he
    rw [show w.heap[g]? = _ from hb] at hg
    cases hg
    exact hne rfl
theorem Own.lower {α : Type} {f : α → List Value} {sz : Nat} {e : TypeId} {w : World} {base base' : Nat} {v : Value} {l : List α} (h : Own f sz e w base v l) (hB : base' ≤ base) : Own f sz e w base' v l := by
  obtain ⟨h1, h2⟩ := h
  refine ⟨h1, ?_⟩
  rcases h2 with h2 | ⟨g, cap, cur, h2, h3, h4⟩
  · exact .inl h2
  · exact .inr ⟨g, cap, cur, h2, Nat.le_trans hB h3, h4⟩
/-- The first n elements of a slice. -/
theorem Own.take {α : Type} {f : α → List Value} {sz : Nat} {e : TypeId} {w : World} {base g cap : Nat} {l l' : List α} (hf : ∀ x, (f x).length = sz) (h : Own f sz e w base (.slice (some ⟨g, 0, none⟩) (l ++ l').length cap) (l ++ l')) :
    Own f sz e w base (.slice (some ⟨g, 0, none⟩) l.length cap) l := by
  obtain ⟨h1, h2⟩ := h
  refine ⟨flat_length f sz hf l, ?_⟩
  rcases h2 with ⟨h2, _⟩ | ⟨g', cap', cur, h2, h3, h4, h5, h6, h7, h8⟩
  · cases h2
  · simp only [Value.slice.injEq, Option.some.injEq, Addr.mk.injEq, and_true, true_and] at h2
    obtain ⟨rfl, rfl⟩ := h2
    refine .inr ⟨g, cap, cur, rfl, h3, h4, by simp at h5; omega, h6, h7, ?_⟩
    have e := congrArg (List.take (l.length * sz)) h8
    have hle : l.length * sz ≤ (l ++ l').length * sz := Nat.mul_le_mul_right _ (by simp)
    have hl := flat_length f sz hf l
    rw [List.take_take, Nat.min_eq_left hle, List.flatMap_append, List.take_append_of_le_length (by omega), List.take_of_length_le (l := l.flatMap f) (by omega)] at e
    exact e
theorem take_snoc {α : Type} (l : List α) (k : Nat) (h : k < l.length) : l.take (k + 1) = l.take k ++ [l[k]] := by
  rw [List.take_succ_eq_append_getElem h]
theorem getD_at (ms : List Int) (i : Nat) (h : i < ms.length) : ms.getD i 0 = ms[i] := by rw [List.getD_eq_getElem?_getD, List.getElem?_eq_getElem h]; rfl
theorem ex_bool (p : Prop) : ∃ R : Bool, R = true ↔ p := by classical exact ⟨decide p, by simp⟩
theorem encI_one (x : Int) : ∀ u ∈ encI x, u.oneCell' = true := by intro u hu; simp [encI] at hu; subst hu; rfl
theorem encB_one (x : Bool) : ∀ u ∈ encB x, u.oneCell' = true := by intro u hu; simp [encB] at hu; subst hu; rfl
/-- 'make([]T, n)' of elements of one cell. -/
theorem wpList_mk1 {α : Type} (f : α → List Value) (x0 : α) (z : Value) (hz : f x0 = [z]) (t e : TypeId) (bytes : Nat) {P : Program} (hT : P.underlying t = some (.slice e)) (hI : (P.info? e).map (fun i => (i.zero, i.size, i.bytes)) = some (some z, 1, bytes)) (hzc : z.cells = #[z])
    (hby : bytes ≤ 1000) (base : Nat) (w : World) (n : Nat) (hn : n ≤ 1000000) (hb : base ≤ w.heap.size)
    {ops : Array Oper} {rest : List Oper} {o : Oper} {a : Act} {Q : Exit → Act → World → Prop} (hg : o.guard = none) (l c : Operand) (hop : o.op = Op.makeSlice t l c) (kl kc : IntKind) (hl : a.eval l = .int kl n) (hc : a.eval c = .int kc n)
    (h : ∀ w', Own f 1 e w' base (.slice (some ⟨w.heap.size, 0, none⟩) n n) (List.replicate n x0) → w.grownBy w' none → wpList P ops Q rest (a.put o.dst (.slice (some ⟨w.heap.size, 0, none⟩) n n)) w') : wpList P ops Q (o :: rest) a w := by
  obtain ⟨i, hi, h0, h1, h2⟩ := info_parts hI
  have hmul : bytes * n ≤ 1000 * 1000000 := Nat.mul_le_mul hby hn
  refine wpList_make_full w hg l c t hop base e i z 1 hT hi h0 h1 kl kc _ _ n hl hc rfl rfl (by rw [h2]; omega) (by unfold maxLen; omega) hb ?_
  intro w' how hgr
  refine h w' ?_ hgr
  unfold Own
  rw [hzc, Nat.mul_one, toList_madeCells_one] at how
  have : (List.replicate n x0).flatMap f = List.replicate n z := by
    clear how hmul h hl hc hn
    induction n with
    | zero => rfl
    | succ n ih => rw [List.replicate_succ, List.flatMap_cons, ih, hz, List.replicate_succ]; rfl
  rw [this, List.length_replicate]
  exact how
theorem grown_none_below {w w' : World} (h : w.grownBy w' none) : Below w.heap.size w w' := (Below.refl _ _).grown h (Nat.le_refl _) (fun k hk => by cases hk)
/-- 'append(s, l...)', s a slice that the call owns, l one that lies anywhere. -/
theorem wpList_cat {α : Type} (f : α → List Value) (sz bytes : Nat) (t e : TypeId) (z : Value) {P : Program} (hT : P.underlying t = some (.slice e)) (hI : (P.info? e).map (fun i => (i.zero, i.size, i.bytes)) = some (some z, sz, bytes))
    (hzs : z.cells.size = sz) (hsz : 0 < sz) (hby : bytes ≤ 1000) (hf : ∀ x, (f x).length = sz) (h1c : ∀ x, ∀ u ∈ f x, u.oneCell' = true)
    (l l2 : List α) (base : Nat) (w : World) (v : Value) (hown : Own f sz e w base v l) (hbase : base ≤ w.heap.size) (hlen : l.length + l2.length ≤ 2000000000) (p : Addr) (c : Nat)
    (hat : ∀ i (h : i < l2.length), ∀ j u, (f l2[i])[j]? = some u → w.cell? (p.add (i * sz + j)) = some u)
    {ops : Array Oper} {rest : List Oper} {o : Oper} {a : Act} {Q : Exit → Act → World → Prop} (hgd : o.guard = none) (s y : Operand)
    (ho : o.op = .call { callee := .builtin .append, args := #[s, y], argTypes := #[t, t] }) (hs : a.eval s = v) (hy : a.eval y = .slice (some p) l2.length c)
    (h : ∀ v' w', Own f sz e w' base v' (l ++ l2) → w.grownBy w' v.ownBlock → wpList P ops Q rest (a.put o.dst v') w') : wpList P ops Q (o :: rest) a w := by
  obtain ⟨i, hi, hz0, hz1, hz2⟩ := info_parts hI
  have hmul : (l.length + l2.length) * bytes ≤ 2000000000 * 1000 := Nat.mul_le_mul hlen hby
  refine wpList_append_own _ hgd s y t ho base e i z sz bytes hT hi hz0 hz1 hz2 hzs hsz v l.length _ hs hown p l2.length c (l2.flatMap f) hy (flat_length f sz hf l2) ?_ ?_ (by simp [maxLen]; omega) (by omega) hbase ?_
  · intro j u hu
    have hj : j < l2.length * sz := by rw [← flat_length f sz hf l2]; exact (List.getElem?_eq_some_iff.1 hu).1
    have hd : j / sz < l2.length := (Nat.div_lt_iff_lt_mul hsz).2 hj
    have hm := Nat.div_add_mod j sz
    rw [Nat.mul_comm] at hm
    have h2 := flat_get f sz hf l2 (j / sz) hd (j % sz) (Nat.mod_lt _ hsz)
    rw [hm, hu] at h2
    have h3 := hat (j / sz) hd (j % sz) u h2.symm
    rwa [hm] at h3
  · intro u hu
    obtain ⟨x, _, hx⟩ := List.mem_flatMap.1 hu
    exact h1c x u hx
  · intro v' w' h1 h2 _
    refine h v' w' ?_ h2
    unfold Own
    rw [List.length_append, List.flatMap_append]
    exact h1
/-- 'append(s, l...)' as a step of a region that draws its order. -/
theorem step_cat {α : Type} (f : α → List Value) (sz bytes : Nat) (t e : TypeId) (z : Value) {P : Program} (hT : P.underlying t = some (.slice e)) (hI : (P.info? e).map (fun i => (i.zero, i.size, i.bytes)) = some (some z, sz, bytes))
    (hzs : z.cells.size = sz) (hsz : 0 < sz) (hby : bytes ≤ 1000) (hf : ∀ x, (f x).length = sz) (h1c : ∀ x, ∀ u ∈ f x, u.oneCell' = true)
    (l l2 : List α) (base : Nat) (w : World) (v : Value) (hown : Own f sz e w base v l) (hbase : base ≤ w.heap.size) (hlen : l.length + l2.length ≤ 2000000000) (p : Addr) (c : Nat)
    (hat : ∀ i (h : i < l2.length), ∀ j u, (f l2[i])[j]? = some u → w.cell? (p.add (i * sz + j)) = some u)
    {ops : Array Oper} {o : Oper} {a : Act} {K : Act → World → Prop} {Q : Exit → Act → World → Prop} {E : Prop} (hgd : o.guard = none) (s y : Operand)
    (ho : o.op = .call { callee := .builtin .append, args := #[s, y], argTypes := #[t, t] }) (hs : a.eval s = v) (hy : a.eval y = .slice (some p) l2.length c)
    (h : ∀ v' w', Own f sz e w' base v' (l ++ l2) → w.grownBy w' v.ownBlock → K (a.put o.dst v') w') :
    if Region.wanted o (yielded ops a.tmps) = true then Oper.wp P o a w K Q else E := by
  have hw : Region.wanted o (yielded ops a.tmps) = true := by simp [Region.wanted, hgd]
  rw [if_pos hw]
  obtain ⟨i, hi, hz0, hz1, hz2⟩ := info_parts hI
  have hmul : (l.length + l2.length) * bytes ≤ 2000000000 * 1000 := Nat.mul_le_mul hlen hby
  refine wp_append_own _ s y t ho base e i z sz bytes hT hi hz0 hz1 hz2 hzs hsz v l.length _ hs hown p l2.length c (l2.flatMap f) hy (flat_length f sz hf l2) ?_ ?_ (by simp [maxLen]; omega) (by omega) hbase ?_
  · intro j u hu
    have hj : j < l2.length * sz := by rw [← flat_length f sz hf l2]; exact (List.getElem?_eq_some_iff.1 hu).1
    have hd : j / sz < l2.length := (Nat.div_lt_iff_lt_mul hsz).2 hj
    have hm := Nat.div_add_mod j sz
    rw [Nat.mul_comm] at hm
    have h2 := flat_get f sz hf l2 (j / sz) hd (j % sz) (Nat.mod_lt _ hsz)
    rw [hm, hu] at h2
    have h3 := hat (j / sz) hd (j % sz) u h2.symm
    rwa [hm] at h3
  · intro u hu
    obtain ⟨x, _, hx⟩ := List.mem_flatMap.1 hu
    exact h1c x u hx
  · intro v' w' h1 h2 _
    refine h v' w' ?_ h2
    unfold Own
    rw [List.length_append, List.flatMap_append]
    exact h1
theorem row_at {w : World} {cs : Array Value} {e : TypeId} {g : Nat} (hg : w.heap.size = g) : (w.alloc (.cells cs e)).heap[g]? = some (.cells cs e (0, 0)) := by
  subst hg; exact heap_alloc_new _ _
theorem row_old {w : World} {o c : Obj} {g : Nat} (h : w.heap[g]? = some c) : (w.alloc o).heap[g]? = some c := by
  rw [heap_alloc_old w o (Array.getElem?_eq_some_iff.1 h).1]; exact h
theorem row_drew {w : World} {c : Obj} {g : Nat} (h : w.heap[g]? = some c) : w.drew.heap[g]? = some c := h
theorem row_here {w : World} {cs : Array Value} {e : TypeId} {g : Nat} (hg : w.heap.size = g) : (w.alloc (.cells cs e)).heap[g]? = some (.cells cs e (0, 0)) := by
  subst hg; exact Box.new w cs e
theorem step_catE {α : Type} (f : α → List Value) (sz bytes : Nat) (t e : TypeId) (z : Value) {P : Program} (hT : P.underlying t = some (.slice e)) (hI : (P.info? e).map (fun i => (i.zero, i.size, i.bytes)) = some (some z, sz, bytes))
    (hzs : z.cells.size = sz) (hsz : 0 < sz) (hby : bytes ≤ 1000) (hf : ∀ x, (f x).length = sz) (h1c : ∀ x, ∀ u ∈ f x, u.oneCell' = true)
    (l l2 : List α) (base : Nat) (w : World) (v : Value) (hown : Own f sz e w base v l) (hbase : base ≤ w.heap.size) (hlen : l.length + l2.length ≤ 2000000000) (ap : Option Addr) (c : Nat)
    (hat : 0 < l2.length → ∃ p, ap = some p ∧ ∀ i (h : i < l2.length), ∀ j u, (f l2[i])[j]? = some u → w.cell? (p.add (i * sz + j)) = some u) (hv : ∃ g cap, v = .slice (some ⟨g, 0, none⟩) l.length cap)
    {ops : Array Oper} {o : Oper} {a : Act} {K : Act → World → Prop} {Q : Exit → Act → World → Prop} {E : Prop} (hgd : o.guard = none) (s y : Operand)
    (ho : o.op = .call { callee := .builtin .append, args := #[s, y], argTypes := #[t, t] }) (hs : a.eval s = v) (hy : a.eval y = .slice ap l2.length c)
    (h : ∀ v' w', Own f sz e w' base v' (l ++ l2) → w.grownBy w' v.ownBlock → K (a.put o.dst v') w') :
    if Region.wanted o (yielded ops a.tmps) = true then Oper.wp P o a w K Q else E := by
  cases ap with
  | some p =>
    exact step_cat f sz bytes t e z hT hI hzs hsz hby hf h1c l l2 base w v hown hbase hlen p c (fun i hi => by obtain ⟨p', e, hc⟩ := hat (by omega); cases e; exact hc i hi) hgd s y ho hs hy h
  | none =>
    have hl2 : l2 = [] := by
      cases l2 with
      | nil => rfl
      | cons x r => obtain ⟨p, e, _⟩ := hat (by simp); cases e
    subst hl2
    obtain ⟨g, cap, rfl⟩ := hv
    have hw : Region.wanted o (yielded ops a.tmps) = true := by simp [Region.wanted, hgd]
    rw [if_pos hw]
    obtain ⟨i, hi, hz0, hz1, hz2⟩ := info_parts hI
    have hcap : l.length ≤ cap := by
      rcases hown.2 with ⟨h1, _⟩ | ⟨g', cap', cur, h1, _, _, h2, _⟩
      · cases h1
      · injection h1 with _ _ h3; omega
    have hrun := run_append_room_src (P := P) w t t o.type e i hT hi g 0 l.length cap (.slice none 0 c) 0 [] (Src.ofNil w hT c) (by omega) (by simp) (by simp)
    have hK := h (.slice (some ⟨g, 0, none⟩) l.length cap) w (by rw [List.append_nil]; exact hown) (World.grownBy.refl _ _)
    unfold Oper.wp
    simp only [List.length_nil] at hy
    simp only [Nat.add_zero, Nat.zero_add, World.setCells] at hrun
    simp [execOp, ho, resolve, invoke, builtin, hs, hy, hrun, Result.andThen]
    exact hK
theorem Sl.litAt {α : Type} {f : α → List Value} {sz : Nat} (hf : ∀ x, (f x).length = sz) (l : List α) (w : World) (cs : Array Value) (e : TypeId) (n g : Nat) (hg : w.heap.size = g) (hn : n = l.length) (hcs : cs.toList = l.flatMap f) (hlen : l.length ≤ 1000000000) :
    Sl f sz (w.alloc (.cells cs e)) (w.alloc (.cells cs e)).heap.size (.slice (some ⟨g, 0, none⟩) n n) l := by
  subst hg
  exact Sl.lit hf l w cs e n hn hcs hlen
/-- The head of a slice. -/
structure Hd where
  a : Option Addr
  n : Nat
  c : Nat
def Hd.v (h : Hd) : Value := .slice h.a h.n h.c
def Hd.enc (h : Hd) : List Value := [h.v]
theorem Hd.enc_len (h : Hd) : h.enc.length = 1 := rfl
theorem Hd.enc_one (h : Hd) : ∀ u ∈ h.enc, u.oneCell' = true := by intro u hu; simp [Hd.enc] at hu; subst hu; rfl
/-- 'append(s, u...)', both of them slices of the call's. -/
theorem wpList_catO {α : Type} (f : α → List Value) (sz bytes : Nat) (t e : TypeId) (z : Value) {P : Program} (hT : P.underlying t = some (.slice e)) (hI : (P.info? e).map (fun i => (i.zero, i.size, i.bytes)) = some (some z, sz, bytes))
    (hzs : z.cells.size = sz) (hsz : 0 < sz) (hby : bytes ≤ 1000) (hf : ∀ x, (f x).length = sz) (h1c : ∀ x, ∀ u ∈ f x, u.oneCell' = true)
    (l l2 : List α) (base base2 : Nat) (w : World) (v u : Value) (hown : Own f sz e w base v l) (hbase : base ≤ w.heap.size) (hlen : l.length + l2.length ≤ 2000000000) (hu : Own f sz e w base2 u l2)
    {ops : Array Oper} {rest : List Oper} {o : Oper} {a : Act} {Q : Exit → Act → World → Prop} (hgd : o.guard = none) (s y : Operand)
    (ho : o.op = .call { callee := .builtin .append, args := #[s, y], argTypes := #[t, t] }) (hs : a.eval s = v) (hy : a.eval y = u)
    (h : ∀ v' w', Own f sz e w' base v' (l ++ l2) → w.grownBy w' v.ownBlock → wpList P ops Q rest (a.put o.dst v') w') : wpList P ops Q (o :: rest) a w := by
  rcases hu.2 with ⟨hv, h0⟩ | ⟨g, cap, cur, hv, _⟩
  · have hl2 : l2 = [] := List.eq_nil_of_length_eq_zero h0
    subst hl2
    obtain ⟨i, hi, _, _, _⟩ := info_parts hI
    refine wpList_append_own_none hgd s y t ho base e i sz hT hi v l.length _ hs hown (by rw [hy, hv]) ?_
    exact h v w (by rw [List.append_nil]; exact hown) (World.grownBy.refl _ _)
  · refine wpList_cat f sz bytes t e z hT hI hzs hsz hby hf h1c l l2 base w v hown hbase hlen ⟨g, 0, none⟩ cap ?_ hgd s y ho hs (by rw [hy, hv]) h
    intro i hi j q hq
    rw [hv] at hu
    have := hu.at hf i hi j q hq
    rw [Addr.add_lit, Nat.zero_add]
    exact this
/-- A list of lists that the call has made. -/
def LLR (w : World) (base bi : Nat) (v : Value) (LL : List (List Int)) : Prop :=
  ∃ HH : List Hd, Own Hd.enc 1 22 w base v HH ∧ HH.length = LL.length ∧ ∀ i (h : i < HH.length) (h2 : i < LL.length), Own encI 1 3 w bi HH[i].v LL[i]
theorem LLR.later {w w' : World} {base bi : Nat} {v : Value} {LL : List (List Int)} (h : LLR w base bi v LL) (hb : Below w.heap.size w w') : LLR w' base bi v LL := by
  obtain ⟨HH, h1, h2, h3⟩ := h
  exact ⟨HH, h1.later hb, h2, fun i k1 k2 => (h3 i k1 k2).later hb⟩
theorem LLR.nil (w : World) (base bi : Nat) : LLR w base bi (.slice none 0 0) [] := ⟨[], Own.nil _ _ _ _ _, rfl, fun i h => absurd h (by simp)⟩
theorem LLR.push {w w' : World} {base bi : Nat} {v v' : Value} {LL : List (List Int)} {HH : List Hd} {h : Hd} {l : List Int} (h2 : HH.length = LL.length) (h3 : ∀ i (h : i < HH.length) (h2 : i < LL.length), Own encI 1 3 w bi HH[i].v LL[i])
    (hl : Own encI 1 3 w bi h.v l) (hv : Own Hd.enc 1 22 w base v HH) (ho : Own Hd.enc 1 22 w' base v' (HH ++ [h])) (hg : w.grownBy w' v.ownBlock) : LLR w' base bi v' (LL ++ [l]) := by
  refine ⟨HH ++ [h], ho, by simp [h2], fun i k1 k2 => ?_⟩
  have kept : ∀ (q : Value) (l : List Int), Own encI 1 3 w bi q l → Own encI 1 3 w' bi q l := by
    intro q l hq
    refine hq.kept hg ?_
    rcases hqo : q.ownBlock with _ | k
    · exact .inl rfl
    · exact .inr fun e => hq.two_types hv (by decide) k hqo e.symm
  by_cases hi : i < HH.length
  · have e1 : (HH ++ [h])[i] = HH[i] := List.getElem_append_left hi
    have e2 : (LL ++ [l])[i] = LL[i]'(by omega) := List.getElem_append_left (by omega)
    rw [e1, e2]
    exact kept _ _ (h3 i hi (by omega))
  · simp at k1 k2
    have hi2 : i = HH.length := by omega
    subst hi2
    have e1 : (HH ++ [h])[HH.length]'(by simp) = h := by simp
    have e2 : (LL ++ [l])[HH.length]'(by simp; omega) = l := by simp [h2]
    rw [e1, e2]
    exact kept _ _ hl
theorem LLR.lower {w : World} {base base' bi bi' : Nat} {v : Value} {LL : List (List Int)} (h : LLR w base bi v LL) (h1 : base' ≤ base) (h2 : bi' ≤ bi) : LLR w base' bi' v LL := by
  obtain ⟨HH, k1, k2, k3⟩ := h
  exact ⟨HH, k1.lower h1, k2, fun i q1 q2 => (k3 i q1 q2).lower h2⟩
section
variable {α : Type} {f : α → List Value} {sz : Nat} {e : TypeId} {w w' : World} {base : Nat} {v : Value} {l : List α}
theorem Own.atN {g n cap : Nat} (h : Own f sz e w base (.slice (some ⟨g, 0, none⟩) n cap) l) (hn : l.length = n) (hf : ∀ x, (f x).length = sz) (i : Nat) (hi : i < l.length) : At w g (i * sz) (f l[i]) := by subst hn; exact h.at hf i hi
theorem Own.frozenN {g n cap : Nat} (h : Own f sz e w base (.slice (some ⟨g, 0, none⟩) n cap) l) (hn : l.length = n) (o : Nat) : w.frozen? ⟨g, o, none⟩ = false := by subst hn; exact h.frozen o
theorem Own.setN {g n cap : Nat} (h : Own f sz e w base (.slice (some ⟨g, 0, none⟩) n cap) l) (hn : l.length = n) (hf : ∀ x, (f x).length = sz) (i : Nat) (hi : i < l.length) (j : Nat) (hj : j < sz) (u : Value) (y : α) (hy : f y = (f l[i]).set j u) :
    Own f sz e (w.setCell ⟨g, i * sz + j, none⟩ u) base (.slice (some ⟨g, 0, none⟩) n cap) (l.set i y) := by subst hn; exact h.set hf i hi j hj u y hy
end
end Go.Proofs.YtahpdkkpnkhnhaaGreatDoor

/- Walks: the kinds of machines. -/
namespace Go.Proofs.YtahpdkkpnkhnhaaGreatDoor
open Go Go.Proofs Go.RowKit

def encS (s : ByteArray) : List Value := [.string s]
theorem encS_len (s : ByteArray) : (encS s).length = 1 := rfl
def wordL : List ByteArray := [⟨#[112, 105, 116]⟩, ⟨#[98, 105, 110]⟩, ⟨#[115, 112, 111, 117, 116]⟩, ⟨#[98, 101, 108, 116]⟩, ⟨#[108, 101, 103]⟩, ⟨#[103, 97, 116, 101]⟩, ⟨#[100, 105, 115, 116, 114, 105, 98, 117, 116, 111, 114]⟩, ⟨#[115, 99, 97, 108, 101]⟩]
/-- The table of the words of the kinds. -/
def WdR (w : World) : Prop := Sl encS 1 w w.heap.size (.slice (some ⟨0, 0, none⟩) 8 8) wordL
theorem WdR.later {w w' : World} (h : WdR w) (hb : Below w.heap.size w w') : WdR w' := Sl.later h hb
/-- The first place of a text in a list, from k on, or -1. -/
def idxS : List ByteArray → ByteArray → Nat → Int
  | [], _, _ => -1
  | x :: r, s, k => if s.toList == x.toList then k else idxS r s (k + 1)
theorem idxS_drop (l : List ByteArray) (s : ByteArray) (k : Nat) (h : k < l.length) : idxS (l.drop k) s k = if s.toList == l[k].toList then (k : Int) else idxS (l.drop (k + 1)) s (k + 1) := by
  rw [List.drop_eq_getElem_cons h]; rfl

set_option maxRecDepth 100000 in
set_option maxHeartbeats 1000000 in
theorem index143 (v : Value) (l : List ByteArray) (s : ByteArray) (w : World) (hv : Sl encS 1 w w.heap.size v l) : Calls Tryz.prog 143 #[v, .string s] w (Ret (.int .i64 (idxS l s 0)) w) := by
  obtain ⟨a, c, rfl, hlen, hA⟩ := hv
  have HA := Lib.hid hA
  clear hA
  obtain ⟨R, hR⟩ : ∃ R, idxS l s 0 = R := ⟨_, rfl⟩
  rw [hR]
  have HR := Lib.hid hR
  clear hR
  go_enter Tryz.func143, Tryz.ntmps143
  go_wp2_with fail
  go_loop [8] (fun i => ∃ k : Nat, k ≤ l.length ∧ i = .int .i64 k ∧ idxS (l.drop k) s k = R) (fun i => l.length - (intOf i).toNat)
  case atStart => exact ⟨0, by omega, rfl, HR.out⟩
  case round =>
    obtain ⟨k, hk, rfl, hrel⟩ := hrel
    have HN := Lib.hid hrel
    clear hrel
    by_cases hlt : k < l.length
    · obtain ⟨b, off, rfl, hbb, hcells⟩ := HA.out (by omega)
      have hd := Lib.hid (idxS_drop l s k hlt)
      have c0 := (hcells k hlt).c1
      rw [Nat.mul_one] at c0
      clear hcells HA
      generalize l[k] = y at *
      obtain ⟨q, hq⟩ : ∃ q, (s.toList == y.toList) = q := ⟨_, rfl⟩
      cases q with
      | true =>
        go_wp2_with fail
        go_ret
        exact Ret.mk (by have := HN.out; rw [hd.out, if_pos hq] at this; rw [← this]; rfl) (Below.refl _ _)
      | false =>
        go_wp2_with fail
        go_round
        case rel => exact ⟨k + 1, by omega, by go_num, by have := HN.out; rw [hd.out, if_neg (by rw [hq]; simp)] at this; exact this⟩
        case measure => simp [intOf]; omega
    · obtain rfl : l.length = k := by omega
      go_wp2_with fail
      go_ret
      exact Ret.mk (by have := HN.out; rw [List.drop_length] at this; rw [← this]; rfl) (Below.refl _ _)

/-- The kind of a machine, or -1. -/
def kn (s : ByteArray) : Int := idxS wordL s 0
set_option maxRecDepth 100000 in
set_option maxHeartbeats 1000000 in
theorem kindOf94 (s : ByteArray) (t : Int) (w : World) (hw : WdR w) : Calls Tryz.prog 94 #[.agg #[.string s, .int .i64 t]] w (Ret (.int .i64 (kn s)) w) := by
  have HI := Lib.hid (fun (w1 : World) (hb : Below w.heap.size w w1) => index143 _ wordL s w1 (hw.later hb))
  have HB := Lib.hid ((Below.refl w.heap.size w).alloc (Nat.le_refl _) (.cells #[.string s, .int .i64 t] 65))
  go_enter Tryz.func94, Tryz.ntmps94
  go_wp2_with fail
  refine wp_region_head_drew 3 (by kernel_rfl) (by kernel_rfl) ?_
  simp only [List.take_succ_cons, List.take_zero, List.drop_succ_cons, List.drop_zero]
  repeat go_big_quiet_step (fail)
  refine wpQuiet_nil ?_
  rintro _ ⟨nq, rfl⟩
  go_wp2_with fail
  refine (HI.out _ (below_drewN HB.out nq)).mono ?_
  rintro e w2 ⟨rfl, hb2⟩
  go_wp2_with fail
  refine bodyPost_ret (v := .int .i64 (kn s)) (by simp [results, Tryz.results94, go_sem, *, kn]) rfl ?_
  exact ⟨rfl, (below_drewN HB.out nq).trans (hb2.mono HB.out.size)⟩

/-- Whether a kind is that of a conveyor, whether a path may begin and end with it, whether it can have a grain. -/
def cvB (s : ByteArray) : Bool := decide (3 ≤ kn s)
def bgB (s : ByteArray) : Bool := decide (kn s = 0) || decide (kn s = 1)
def enB (s : ByteArray) : Bool := decide (kn s = 1) || decide (kn s = 2)
def kpB (s : ByteArray) : Bool := decide (kn s ≠ 0) && decide (kn s ≠ 2)
set_option maxRecDepth 100000 in
set_option maxHeartbeats 1000000 in
theorem conveys84 (s : ByteArray) (t : Int) (w : World) (hw : WdR w) : Calls Tryz.prog 84 #[.agg #[.string s, .int .i64 t]] w (Ret (.bool (cvB s)) w) := by
  have HK := Lib.hid (fun (w1 : World) (hb : Below w.heap.size w w1) => kindOf94 s t w1 (hw.later hb))
  have HB := Lib.hid ((Below.refl w.heap.size w).alloc (Nat.le_refl _) (.cells #[.string s, .int .i64 t] 65))
  obtain ⟨R, hR⟩ : ∃ R, cvB s = R := ⟨_, rfl⟩
  rw [hR]
  obtain ⟨n, hn⟩ : ∃ n, kn s = n := ⟨_, rfl⟩
  unfold cvB at hR
  rw [hn] at HK hR
  go_enter Tryz.func84, Tryz.ntmps84
  go_wp2_with fail
  refine (HK.out _ HB.out).mono ?_
  rintro e w2 ⟨rfl, hb2⟩
  go_wp2_with fail
  go_ret
  exact ⟨rfl, HB.out.trans (hb2.mono HB.out.size)⟩
set_option maxRecDepth 100000 in
set_option maxHeartbeats 1000000 in
theorem begins80 (s : ByteArray) (t : Int) (w : World) (hw : WdR w) : Calls Tryz.prog 80 #[.agg #[.string s, .int .i64 t]] w (Ret (.bool (bgB s)) w) := by
  have HK := Lib.hid (fun (w1 : World) (hb : Below w.heap.size w w1) => kindOf94 s t w1 (hw.later hb))
  have HB := Lib.hid ((Below.refl w.heap.size w).alloc (Nat.le_refl _) (.cells #[.string s, .int .i64 t] 65))
  have HX := Lib.hid (Box.new w #[.string s, .int .i64 t] 65)
  obtain ⟨n, hn⟩ : ∃ n, kn s = n := ⟨_, rfl⟩
  unfold bgB
  rw [hn] at HK ⊢
  clear hn
  go_enter Tryz.func80, Tryz.ntmps80
  by_cases h0 : n = 0
  · have k0 : (n == 0) = true := beq_iff_eq.2 h0
    have HF := Lib.hid (show (decide (n = 0) || decide (n = 1)) = true by simp [h0])
    rw [HF.out]
    clear h0
    go_wp2_with fail
    refine (HK.out _ HB.out).mono ?_
    rintro e w2 ⟨rfl, hb2⟩
    go_wp2_with fail
    go_ret
    exact ⟨rfl, HB.out.trans (hb2.mono HB.out.size)⟩
  · have k0 : (n == 0) = false := beq_eq_false_iff_ne.2 h0
    have HF := Lib.hid (show (decide (n = 0) || decide (n = 1)) = (n == 1) by simp [h0]; rfl)
    rw [HF.out]
    clear h0
    go_wp2_with fail
    refine (HK.out _ HB.out).mono ?_
    rintro e w2 ⟨rfl, hb2⟩
    have HB2 := Lib.hid (HB.out.trans (hb2.mono HB.out.size))
    obtain ⟨x0, x1, xf, xz⟩ := (HX.out.later hb2).v2
    clear hb2
    go_wp2_with fail
    refine (HK.out _ HB2.out).mono ?_
    rintro e w3 ⟨rfl, hb3⟩
    go_wp2_with fail
    go_ret
    exact ⟨rfl, HB2.out.trans (hb3.mono HB2.out.size)⟩
set_option maxRecDepth 100000 in
set_option maxHeartbeats 1000000 in
theorem ends81 (s : ByteArray) (t : Int) (w : World) (hw : WdR w) : Calls Tryz.prog 81 #[.agg #[.string s, .int .i64 t]] w (Ret (.bool (enB s)) w) := by
  have HK := Lib.hid (fun (w1 : World) (hb : Below w.heap.size w w1) => kindOf94 s t w1 (hw.later hb))
  have HB := Lib.hid ((Below.refl w.heap.size w).alloc (Nat.le_refl _) (.cells #[.string s, .int .i64 t] 65))
  have HX := Lib.hid (Box.new w #[.string s, .int .i64 t] 65)
  obtain ⟨n, hn⟩ : ∃ n, kn s = n := ⟨_, rfl⟩
  unfold enB
  rw [hn] at HK ⊢
  clear hn
  go_enter Tryz.func81, Tryz.ntmps81
  by_cases h0 : n = 1
  · have k0 : (n == 1) = true := beq_iff_eq.2 h0
    have HF := Lib.hid (show (decide (n = 1) || decide (n = 2)) = true by simp [h0])
    rw [HF.out]
    clear h0
    go_wp2_with fail
    refine (HK.out _ HB.out).mono ?_
    rintro e w2 ⟨rfl, hb2⟩
    go_wp2_with fail
    go_ret
    exact ⟨rfl, HB.out.trans (hb2.mono HB.out.size)⟩
  · have k0 : (n == 1) = false := beq_eq_false_iff_ne.2 h0
    have HF := Lib.hid (show (decide (n = 1) || decide (n = 2)) = (n == 2) by simp [h0]; rfl)
    rw [HF.out]
    clear h0
    go_wp2_with fail
    refine (HK.out _ HB.out).mono ?_
    rintro e w2 ⟨rfl, hb2⟩
    have HB2 := Lib.hid (HB.out.trans (hb2.mono HB.out.size))
    obtain ⟨x0, x1, xf, xz⟩ := (HX.out.later hb2).v2
    clear hb2
    go_wp2_with fail
    refine (HK.out _ HB2.out).mono ?_
    rintro e w3 ⟨rfl, hb3⟩
    go_wp2_with fail
    go_ret
    exact ⟨rfl, HB2.out.trans (hb3.mono HB2.out.size)⟩
set_option maxRecDepth 100000 in
set_option maxHeartbeats 1000000 in
theorem keeps96 (s : ByteArray) (t : Int) (w : World) (hw : WdR w) : Calls Tryz.prog 96 #[.agg #[.string s, .int .i64 t]] w (Ret (.bool (kpB s)) w) := by
  have HK := Lib.hid (fun (w1 : World) (hb : Below w.heap.size w w1) => kindOf94 s t w1 (hw.later hb))
  have HB := Lib.hid ((Below.refl w.heap.size w).alloc (Nat.le_refl _) (.cells #[.string s, .int .i64 t] 65))
  have HX := Lib.hid (Box.new w #[.string s, .int .i64 t] 65)
  obtain ⟨n, hn⟩ : ∃ n, kn s = n := ⟨_, rfl⟩
  unfold kpB
  rw [hn] at HK ⊢
  clear hn
  go_enter Tryz.func96, Tryz.ntmps96
  by_cases h0 : n = 0
  · have k0 : (n != 0) = false := by simp [h0]
    have HF := Lib.hid (show (decide (n ≠ 0) && decide (n ≠ 2)) = false by simp [h0])
    rw [HF.out]
    clear h0
    go_wp2_with fail
    refine (HK.out _ HB.out).mono ?_
    rintro e w2 ⟨rfl, hb2⟩
    go_wp2_with fail
    go_ret
    exact ⟨rfl, HB.out.trans (hb2.mono HB.out.size)⟩
  · have k0 : (n != 0) = true := by simp [h0]
    obtain ⟨q, hq⟩ : ∃ q, (n != 2) = q := ⟨_, rfl⟩
    have HF := Lib.hid (show (decide (n ≠ 0) && decide (n ≠ 2)) = q by rw [← hq]; by_cases h2 : n = 2 <;> simp [h0, h2])
    rw [HF.out]
    clear h0
    go_wp2_with fail
    refine (HK.out _ HB.out).mono ?_
    rintro e w2 ⟨rfl, hb2⟩
    have HB2 := Lib.hid (HB.out.trans (hb2.mono HB.out.size))
    obtain ⟨x0, x1, xf, xz⟩ := (HX.out.later hb2).v2
    clear hb2
    go_wp2_with fail
    refine (HK.out _ HB2.out).mono ?_
    rintro e w3 ⟨rfl, hb3⟩
    go_wp2_with fail
    go_ret
    exact ⟨rfl, HB2.out.trans (hb3.mono HB2.out.size)⟩

/-- Two texts with the same letters are one. -/
theorem eqS {s t : ByteArray} : (s.toList == t.toList) = true ↔ s = t := by
  constructor
  · intro h
    have h1 : s.toList = t.toList := by simpa using h
    rw [ByteArray.toList_eq, ByteArray.toList_eq] at h1
    cases s; cases t
    congr 1
    exact Array.toList_inj.1 h1
  · rintro rfl; simp
/-- The words, letter by letter; what the reference asks. -/
def wdl : List (List UInt8) := [[112, 105, 116], [98, 105, 110], [115, 112, 111, 117, 116], [98, 101, 108, 116], [108, 101, 103], [103, 97, 116, 101], [100, 105, 115, 116, 114, 105, 98, 117, 116, 111, 114], [115, 99, 97, 108, 101]]
def isW (s : ByteArray) (k : Nat) : Bool := s.toList == wdl.getD k []
theorem idxS_cons (x : ByteArray) (r : List ByteArray) (s : ByteArray) (k : Nat) : idxS (x :: r) s k = if s.toList == x.data.toList then (k : Int) else idxS r s (k + 1) := by
  rw [← ByteArray.toList_eq]; rfl
theorem kn_eq (s : ByteArray) : kn s = if isW s 0 then 0 else if isW s 1 then 1 else if isW s 2 then 2 else if isW s 3 then 3 else if isW s 4 then 4 else if isW s 5 then 5 else if isW s 6 then 6 else if isW s 7 then 7 else -1 := by
  unfold kn wordL
  simp only [idxS_cons]
  rfl
theorem isW_one {s : ByteArray} {i j : Nat} (hi : i < 8) (hj : j < 8) (h : isW s i = true) (h' : isW s j = true) : i = j := by
  have e : wdl.getD i [] = wdl.getD j [] := by
    have h1 : s.toList = wdl.getD i [] := by simpa only [isW, beq_iff_eq] using h
    have h2 : s.toList = wdl.getD j [] := by simpa only [isW, beq_iff_eq] using h'
    rw [← h1, h2]
  have key : ∀ a, a < 8 → ∀ b, b < 8 → wdl.getD a [] = wdl.getD b [] → a = b := by decide
  exact key i hi j hj e
theorem isW_no {s : ByteArray} {i : Nat} (hi : i < 8) (h : isW s i = true) {j : Nat} (hj : j < 8) (hne : i ≠ j) : isW s j = false := by
  cases h' : isW s j with
  | false => rfl
  | true => exact absurd (isW_one hi hj h h') hne
theorem bgB_eq (s : ByteArray) : bgB s = (isW s 0 || isW s 1) := by
  unfold bgB
  rw [kn_eq]
  cases h0 : isW s 0
  · cases h1 : isW s 1
    · simp only [Bool.false_eq_true, if_false, Bool.or_false]
      generalize isW s 2 = b2
      generalize isW s 3 = b3
      generalize isW s 4 = b4
      generalize isW s 5 = b5
      generalize isW s 6 = b6
      generalize isW s 7 = b7
      revert b2 b3 b4 b5 b6 b7
      decide
    · rfl
  · rfl
theorem enB_eq (s : ByteArray) : enB s = (isW s 1 || isW s 2) := by
  unfold enB
  rw [kn_eq]
  cases h0 : isW s 0
  · generalize isW s 1 = b1
    generalize isW s 2 = b2
    generalize isW s 3 = b3
    generalize isW s 4 = b4
    generalize isW s 5 = b5
    generalize isW s 6 = b6
    generalize isW s 7 = b7
    revert b1 b2 b3 b4 b5 b6 b7
    decide
  · rw [isW_no (by omega) h0 (show 1 < 8 by omega) (by omega), isW_no (by omega) h0 (show 2 < 8 by omega) (by omega)]; rfl
theorem kpB_eq (s : ByteArray) : kpB s = (!isW s 0 && !isW s 2) := by
  unfold kpB
  rw [kn_eq]
  cases h0 : isW s 0
  · cases h1 : isW s 1
    · generalize isW s 2 = b2
      generalize isW s 3 = b3
      generalize isW s 4 = b4
      generalize isW s 5 = b5
      generalize isW s 6 = b6
      generalize isW s 7 = b7
      revert b2 b3 b4 b5 b6 b7
      decide
    · rw [isW_no (by omega) h1 (show 2 < 8 by omega) (by omega)]; rfl
  · rfl
theorem cvB_eq (s : ByteArray) : cvB s = (isW s 3 || isW s 4 || isW s 5 || isW s 6 || isW s 7) := by
  unfold cvB
  rw [kn_eq]
  have key : ∀ i, i < 3 → isW s i = true → (isW s 3 || isW s 4 || isW s 5 || isW s 6 || isW s 7) = false := fun i hi h => by
    rw [isW_no (by omega) h (show 3 < 8 by omega) (by omega), isW_no (by omega) h (show 4 < 8 by omega) (by omega), isW_no (by omega) h (show 5 < 8 by omega) (by omega), isW_no (by omega) h (show 6 < 8 by omega) (by omega), isW_no (by omega) h (show 7 < 8 by omega) (by omega)]; rfl
  cases h0 : isW s 0
  · cases h1 : isW s 1
    · cases h2 : isW s 2
      · generalize isW s 3 = b3
        generalize isW s 4 = b4
        generalize isW s 5 = b5
        generalize isW s 6 = b6
        generalize isW s 7 = b7
        revert b3 b4 b5 b6 b7
        decide
      · rw [key 2 (by omega) h2]; rfl
    · rw [key 1 (by omega) h1]; rfl
  · rw [key 0 (by omega) h0]; rfl
/-- A kind that the document knows. -/
theorem kn_some (s : ByteArray) : decide (0 ≤ kn s) = (cvB s || bgB s || enB s) := by
  have h : ∀ k : Int, -1 ≤ k → k ≤ 7 → decide (0 ≤ k) = (decide (3 ≤ k) || (decide (k = 0) || decide (k = 1)) || (decide (k = 1) || decide (k = 2))) := by
    intro k h1 h2
    have : k = -1 ∨ k = 0 ∨ k = 1 ∨ k = 2 ∨ 3 ≤ k := by omega
    rcases this with rfl | rfl | rfl | rfl | h3
    · rfl
    · rfl
    · rfl
    · rfl
    · rw [decide_eq_true h3, decide_eq_true (show 0 ≤ k by omega)]; rfl
  refine h _ ?_ ?_ <;> rw [kn_eq] <;> repeat (first | decide | split)
end Go.Proofs.YtahpdkkpnkhnhaaGreatDoor

/- Walks: the kinds of machines in the reference. -/
namespace Go.Proofs.YtahpdkkpnkhnhaaGreatDoor
open Go Go.Proofs Go.RowKit

set_option maxRecDepth 100000 in
set_option maxHeartbeats 1000000 in
theorem isFirst86 (s : ByteArray) (w : World) : Calls Tryz.prog 86 #[.string s] w (fun e w' => e = .returned (.bool (bgB s)) ∧ w = w') := by
  rw [bgB_eq]
  obtain ⟨q0, h0⟩ : ∃ q, isW s 0 = q := ⟨_, rfl⟩
  obtain ⟨q1, h1⟩ : ∃ q, isW s 1 = q := ⟨_, rfl⟩
  rw [h0, h1]
  replace h0 : (s.toList == [112, 105, 116]) = q0 := h0
  replace h1 : (s.toList == [98, 105, 110]) = q1 := h1
  cases q0 <;> cases q1 <;> (go_enter Tryz.func86, Tryz.ntmps86; go_wp2_with fail; go_ret; exact ⟨rfl, rfl⟩)
theorem isLast87 (s : ByteArray) (w : World) : Calls Tryz.prog 87 #[.string s] w (fun e w' => e = .returned (.bool (enB s)) ∧ w = w') := by
  rw [enB_eq]
  obtain ⟨q0, h0⟩ : ∃ q, isW s 1 = q := ⟨_, rfl⟩
  obtain ⟨q1, h1⟩ : ∃ q, isW s 2 = q := ⟨_, rfl⟩
  rw [h0, h1]
  replace h0 : (s.toList == [98, 105, 110]) = q0 := h0
  replace h1 : (s.toList == [115, 112, 111, 117, 116]) = q1 := h1
  cases q0 <;> cases q1 <;> (go_enter Tryz.func87, Tryz.ntmps87; go_wp2_with fail; go_ret; exact ⟨rfl, rfl⟩)
set_option maxRecDepth 100000 in
set_option maxHeartbeats 1000000 in
theorem isConveyor42 (s : ByteArray) (w : World) : Calls Tryz.prog 42 #[.string s] w (fun e w' => e = .returned (.bool (cvB s)) ∧ w = w') := by
  rw [cvB_eq]
  obtain ⟨q3, h3⟩ : ∃ q, isW s 3 = q := ⟨_, rfl⟩
  obtain ⟨q4, h4⟩ : ∃ q, isW s 4 = q := ⟨_, rfl⟩
  obtain ⟨q5, h5⟩ : ∃ q, isW s 5 = q := ⟨_, rfl⟩
  obtain ⟨q6, h6⟩ : ∃ q, isW s 6 = q := ⟨_, rfl⟩
  obtain ⟨q7, h7⟩ : ∃ q, isW s 7 = q := ⟨_, rfl⟩
  rw [h3, h4, h5, h6, h7]
  replace h3 : (s.toList == [98, 101, 108, 116]) = q3 := h3
  replace h4 : (s.toList == [108, 101, 103]) = q4 := h4
  replace h5 : (s.toList == [103, 97, 116, 101]) = q5 := h5
  replace h6 : (s.toList == [100, 105, 115, 116, 114, 105, 98, 117, 116, 111, 114]) = q6 := h6
  replace h7 : (s.toList == [115, 99, 97, 108, 101]) = q7 := h7
  cases q3 <;> cases q4 <;> cases q5 <;> cases q6 <;> cases q7 <;> (go_enter Tryz.func42, Tryz.ntmps42; go_wp2_with fail; go_ret; exact ⟨by simp, rfl⟩)
end Go.Proofs.YtahpdkkpnkhnhaaGreatDoor
