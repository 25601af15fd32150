/- Lemmas on the way to the law TopChanges (part 3): WNe WNf WNg WNh -/
import Derived.Test.YtflchbejjofppaaGreatDoorTopChangesP02
import Derived.ArgAppend
set_option linter.unusedVariables false
set_option linter.unusedSimpArgs false

/- Breadth first: what a search of a network knows, plainly; the way that it finds; what it leaves closed. -/
namespace Go.Proofs.YtflchbejjofppaaGreatDoor
open Go Go.Proofs Go.RowKit
structure Bfs (l : List Ac) (wo : Int) (u : Nat) (rc : List Bool) (byL : List St) (bkL ord : List Nat) : Prop where
  n1 : rc.length = 36
  n2 : byL.length = 36
  n3 : bkL.length = 36
  hd : u ∈ ord
  nd : ord.Nodup
  lt : ∀ x ∈ ord, x < 36
  mem : ∀ x, x < 36 → (rc.getD x false = true ↔ x ∈ ord)
  tree : ∀ x ∈ ord, x ≠ u → ∃ s k, byL[x]? = some s ∧ bkL[x]? = some k ∧ k ∈ ord ∧ ord.idxOf k < ord.idxOf x ∧ GoodSt l k wo (s, x)
theorem idxOf_old (ord : List Nat) (y x : Nat) (h : x ∈ ord) : (ord ++ [y]).idxOf x = ord.idxOf x := by
  rw [List.idxOf_append, if_pos h]
theorem idxOf_new (ord : List Nat) (y : Nat) (h : y ∉ ord) : (ord ++ [y]).idxOf y = ord.length := by
  rw [List.idxOf_append, if_neg h]; simp
theorem Bfs.start (l : List Ac) (wo : Int) (u : Nat) (hu : u < 36) (byL : List St) (bkL : List Nat) (h2 : byL.length = 36) (h3 : bkL.length = 36) : Bfs l wo u ((List.replicate 36 false).set u true) byL bkL [u] :=
  ⟨by simp, h2, h3, by simp, by simp, by simpa using hu, fun x hx => by
    simp only [List.getD_eq_getElem?_getD, List.getElem?_set, List.length_replicate, List.mem_singleton, List.getElem?_replicate]
    by_cases h : u = x
    · subst h; simp [hu]
    · rw [if_neg h, if_pos hx]; simp [Ne.symm h], fun x hx hne => absurd (by simpa using hx) hne⟩
theorem Bfs.visit {l : List Ac} {wo : Int} {u : Nat} {rc : List Bool} {byL : List St} {bkL ord : List Nat} (h : Bfs l wo u rc byL bkL ord) {k x : Nat} {s : St} (hk : k ∈ ord) (hx : x < 36) (hn : x ∉ ord) (hg : GoodSt l k wo (s, x)) :
    Bfs l wo u (rc.set x true) (byL.set x s) (bkL.set x k) (ord ++ [x]) := by
  refine ⟨by simp [h.n1], by simp [h.n2], by simp [h.n3], by simp [h.hd], ?_, ?_, ?_, ?_⟩
  · rw [List.nodup_append]
    exact ⟨h.nd, by simp, fun a ha b hb e => by simp at hb; subst hb; subst e; exact hn ha⟩
  · intro y hy
    rcases List.mem_append.1 hy with hy | hy
    · exact h.lt y hy
    · simp at hy; omega
  · intro y hy
    by_cases e : x = y
    · subst e; simp [List.getD_eq_getElem?_getD, h.n1, hx]
    · have := h.mem y hy
      simp only [List.getD_eq_getElem?_getD, List.getElem?_set, if_neg e] at this ⊢
      rw [this]; simp [Ne.symm e]
  · intro y hy hne
    rcases List.mem_append.1 hy with hy | hy
    · obtain ⟨s', k', h1, h2, h3, h4, h5⟩ := h.tree y hy hne
      have e : x ≠ y := fun e => hn (e ▸ hy)
      exact ⟨s', k', by rw [List.getElem?_set, if_neg e]; exact h1, by rw [List.getElem?_set, if_neg e]; exact h2, List.mem_append_left _ h3, by rw [idxOf_old _ _ _ h3, idxOf_old _ _ _ hy]; exact h4, h5⟩
    · simp at hy; subst hy
      exact ⟨s, k, by simp [h.n2, hx], by simp [h.n3, hx], List.mem_append_left _ hk, by rw [idxOf_old _ _ _ hk, idxOf_new _ _ hn]; exact List.idxOf_lt_length_of_mem hk, hg⟩
theorem Bfs.count {l : List Ac} {wo : Int} {u : Nat} {rc : List Bool} {byL : List St} {bkL ord : List Nat} (h : Bfs l wo u rc byL bkL ord) : ord.length ≤ 36 := by
  have h1 : ord.length ≤ (List.range 36).length := h.nd.length_le_of_subset fun x hx => List.mem_range.2 (h.lt x hx)
  simpa using h1
def Trace (byL : List St) (bkL : List Nat) (u : Nat) : Nat → List St → Prop
  | v, [] => v = u
  | v, s :: p => v ≠ u ∧ v < 36 ∧ byL[v]? = some s ∧ ∃ k, bkL[v]? = some k ∧ Trace byL bkL u k p
theorem Bfs.way {l : List Ac} {wo : Int} {u : Nat} {rc : List Bool} {byL : List St} {bkL ord : List Nat} (h : Bfs l wo u rc byL bkL ord) :
    ∀ (n v : Nat), v ∈ ord → ord.idxOf v < n → ∃ p, Trace byL bkL u v p ∧ Wy l wo v p u ∧ (∀ s ∈ p, ord.idxOf (tailOf l s) < ord.idxOf (headOf l s)) ∧ (∀ s ∈ p, 0 < roomOf l s) ∧ p.length < n
  | 0, v, _, h0 => by omega
  | n + 1, v, hv, hn => by
    by_cases e : v = u
    · exact ⟨[], e, e, by simp, by simp, by simp⟩
    · obtain ⟨s, k, h1, h2, h3, h4, h5⟩ := h.tree v hv e
      obtain ⟨p, p1, p2, p3, p4, p5⟩ := Bfs.way h n k h3 (by omega)
      refine ⟨s :: p, ⟨e, h.lt v hv, h1, k, h2, p1⟩, ⟨h5.lt, h5.ne, h5.hd, by rw [h5.tl]; exact p2⟩, ?_, ?_, by simpa using p5⟩
      · intro t ht
        rcases List.mem_cons.1 ht with rfl | ht
        · rw [h5.tl, h5.hd]; exact h4
        · exact p3 t ht
      · intro t ht
        rcases List.mem_cons.1 ht with rfl | ht
        · exact h5.rm
        · exact p4 t ht
theorem Bfs.way' {l : List Ac} {wo : Int} {u t : Nat} {rc : List Bool} {byL : List St} {bkL ord : List Nat} (h : Bfs l wo u rc byL bkL ord) (ht : t ∈ ord) :
    ∃ p, Trace byL bkL u t p ∧ Wy l wo t p u ∧ (p.map Prod.fst).Nodup ∧ (∀ s ∈ p, 0 < roomOf l s) ∧ p.length < 36 := by
  have hc := h.count
  obtain ⟨p, p1, p2, p3, p4, p5⟩ := h.way (ord.idxOf t + 1) t ht (by omega)
  have := List.idxOf_lt_length_of_mem ht
  exact ⟨p, p1, p2, (Wy.nodup (rk := fun x => ord.idxOf x) p2 p3).1, p4, by omega⟩
theorem Bfs.closed {l : List Ac} {wo : Int} {u : Nat} {rc : List Bool} {byL : List St} {bkL ord : List Nat} (h : Bfs l wo u rc byL bkL ord) (hE : Ends 36 l) (hc : ∀ a ∈ ord, ∀ y ∈ stepsTo l a wo l.length, y.2 ∈ ord) :
    Closed (fun x => rc.getD x false) wo l := by
  intro j hj hw
  obtain ⟨e1, e2⟩ := hE l[j] (List.getElem_mem hj)
  have m1 := h.mem _ e1
  have m2 := h.mem _ e2
  constructor
  · intro h1 h2
    refine Int.not_lt.1 fun hlt => ?_
    have := hc _ (m1.1 h1) _ ((stepsTo_mem hj hw).1 rfl hlt)
    have h2' : rc.getD l[j].to false = false := h2
    rw [m2.2 this] at h2'; cases h2'
  · intro h1 h2
    refine Int.not_lt.1 fun hlt => ?_
    have hne : l[j].fr ≠ l[j].to := fun e => by
      have h2' : rc.getD l[j].fr false = false := h2
      rw [e, show rc.getD l[j].to false = true from h1] at h2'; cases h2'
    have := hc _ (m2.1 h1) _ ((stepsTo_mem hj hw).2 rfl hne hlt)
    have h2' : rc.getD l[j].fr false = false := h2
    rw [m1.2 this] at h2'; cases h2'
def least (l : List Ac) : List St → Int → Int
  | [], m => m
  | s :: p, m => least l p (min m (roomOf l s))
theorem least_le (l : List Ac) : ∀ (p : List St) (m : Int), least l p m ≤ m
  | [], m => Int.le_refl _
  | s :: p, m => by have := least_le l p (min m (roomOf l s)); simp only [least]; omega
theorem least_room (l : List Ac) : ∀ (p : List St) (m : Int), ∀ s ∈ p, least l p m ≤ roomOf l s
  | s :: p, m, t, ht => by
    rcases List.mem_cons.1 ht with rfl | ht
    · have := least_le l p (min m (roomOf l t)); simp only [least]; omega
    · exact least_room l p _ t ht
theorem least_pos (l : List Ac) : ∀ (p : List St) (m : Int), 0 < m → (∀ s ∈ p, 0 < roomOf l s) → 0 < least l p m
  | [], m, h, _ => h
  | s :: p, m, h, hp => by
    have h1 := hp s (by simp)
    exact least_pos l p _ (by omega) fun t ht => hp t (by simp [ht])
theorem GoodSt.ends {l : List Ac} {u : Nat} {wo : Int} {x : St × Nat} (h : GoodSt l u wo x) (hE : Ends 36 l) : x.2 < 36 := by
  have hl := h.lt
  have := h.hd
  unfold headOf at this
  rw [List.getElem?_eq_getElem hl] at this
  obtain ⟨e1, e2⟩ := hE _ (List.getElem_mem hl)
  rw [← this]
  dsimp only
  split <;> assumption
end Go.Proofs.YtflchbejjofppaaGreatDoor
/- A queue of numbers: a slice somewhere in a row of the call's own; its head taken off, one more behind it. What a search keeps in memory. -/
namespace Go.Proofs.YtflchbejjofppaaGreatDoor
open Go Go.Proofs Go.RowKit
def QuR (w : World) (g : Nat) (v : Value) (q : List Nat) : Prop :=
  ∃ off cap cur, v = .slice (some ⟨g, off, none⟩) q.length cap ∧ w.heap[g]? = some (.cells cur 3 (0, 0)) ∧ off + cap ≤ cur.size ∧ q.length ≤ cap ∧ ∀ i (h : i < q.length), cur[off + i]? = some (.int .i64 q[i])
theorem QuR.lt {w : World} {g : Nat} {v : Value} {q : List Nat} (h : QuR w g v q) : g < w.heap.size := by
  obtain ⟨off, cap, cur, _, h2, _⟩ := h
  exact (Array.getElem?_eq_some_iff.1 h2).1
theorem QuR.same {w w' : World} {g : Nat} {v : Value} {q : List Nat} (h : QuR w g v q) (hg : w'.heap[g]? = w.heap[g]?) : QuR w' g v q := by
  obtain ⟨off, cap, cur, h1, h2, h3⟩ := h
  exact ⟨off, cap, cur, h1, hg.trans h2, h3⟩
theorem QuR.later {w w' : World} {g : Nat} {v : Value} {q : List Nat} (h : QuR w g v q) (hb : Below w.heap.size w w') : QuR w' g v q := h.same (hb.block g h.lt)
theorem QuR.other {w : World} {g : Nat} {v : Value} {q : List Nat} (h : QuR w g v q) {a : Addr} (u : Value) (hne : a.block ≠ g) : QuR (w.setCell a u) g v q := h.same (heap_setCell_other w a g u (Ne.symm hne))
theorem QuR.alloc {w : World} {g : Nat} {v : Value} {q : List Nat} (h : QuR w g v q) (o : Obj) : QuR (w.alloc o) g v q := h.same (heap_alloc_old w o h.lt)
theorem QuR.kept {w w' : World} {g : Nat} {v : Value} {q : List Nat} {row : Option Nat} (h : QuR w g v q) (hg : w.grownBy w' row) (hne : some g ≠ row) : QuR w' g v q := h.same (hg.block g h.lt hne)
theorem QuR.lit (w : World) (x : Nat) : QuR (w.alloc (.cells #[.int .i64 x] 3)) w.heap.size (.slice (some ⟨w.heap.size, 0, none⟩) 1 1) [x] :=
  ⟨0, 1, _, rfl, heap_alloc_new w _, by simp, by simp, fun i hi => by obtain rfl : i = 0 := by simpa using hi
                                                                      simp⟩
theorem QuR.form {w : World} {g : Nat} {v : Value} {q : List Nat} (h : QuR w g v q) : ∃ off cap, v = .slice (some ⟨g, off, none⟩) q.length cap ∧ q.length ≤ cap := by
  obtain ⟨off, cap, cur, h1, h2, h3, h4, h5⟩ := h
  exact ⟨off, cap, h1, h4⟩
theorem QuR.head {w : World} {g off cap x n : Nat} {q : List Nat} (h : QuR w g (.slice (some ⟨g, off, none⟩) n cap) (x :: q)) : n = q.length + 1 ∧ q.length + 1 ≤ cap ∧ w.cell? ⟨g, off, none⟩ = some (.int .i64 x) := by
  obtain ⟨off', cap', cur, h1, h2, h3, h4, h5⟩ := h
  simp only [Value.slice.injEq, Option.some.injEq, Addr.mk.injEq, and_true, true_and, List.length_cons] at h1
  obtain ⟨rfl, rfl, rfl⟩ := h1
  refine ⟨rfl, by simpa using h4, ?_⟩
  have := h5 0 (by simp)
  rw [cell_of_row w g off cur 3 (0, 0) h2]
  simpa using this
theorem QuR.tail {w : World} {g off cap x n : Nat} {q : List Nat} (h : QuR w g (.slice (some ⟨g, off, none⟩) n cap) (x :: q)) :
    QuR w g (if cap = 1 then .slice (some ⟨g, off, none⟩) q.length 0 else .slice (some ⟨g, off + 1, none⟩) q.length (cap - 1)) q := by
  obtain ⟨off', cap', cur, h1, h2, h3, h4, h5⟩ := h
  simp only [Value.slice.injEq, Option.some.injEq, Addr.mk.injEq, and_true, true_and, List.length_cons] at h1
  obtain ⟨rfl, rfl, rfl⟩ := h1
  have h4 : q.length + 1 ≤ cap := by simpa using h4
  by_cases hc : cap = 1
  · rw [if_pos hc]
    exact ⟨off, 0, cur, rfl, h2, by omega, by omega, fun i hi => by omega⟩
  · rw [if_neg hc]
    refine ⟨off + 1, cap - 1, cur, rfl, h2, by omega, by omega, fun i hi => ?_⟩
    have := h5 (i + 1) (by simpa using hi)
    rw [show off + 1 + i = off + (i + 1) by omega, this]
    simp
theorem run_append_qu {P : Program} (hT : P.underlying 26 = some (.slice 3)) (hI : (P.info? 3).map (fun i => (i.zero, i.size, i.bytes)) = some (some (.int .i64 0), 1, 8))
    (w : World) (g : Nat) (v : Value) (q : List Nat) (x b : Nat) (t' ty : TypeId) (hq : QuR w g v q) (hx : w.heap[b]? = some (.cells #[.int .i64 x] t' (0, 0))) (hn : q.length ≤ 1000000) :
    ∃ v' w' g', (Builtin.append_ #[26, 26] ty #[v, .slice (some ⟨b, 0, none⟩) 1 1]).run P w = .ok v' w' ∧ QuR w' g' v' (q ++ [x]) ∧ w.grownBy w' (some g) ∧ (g' = g ∨ w.heap.size ≤ g') := by
  obtain ⟨i, hi, hz0, hz1, hz2⟩ := info_parts hI
  obtain ⟨off, cap, cur, rfl, h2, h3, h4, h5⟩ := hq
  have hnews : ∀ (j : Nat) (u : Value), [Value.int .i64 x][j]? = some u → w.cell? ((⟨b, 0, none⟩ : Addr).add j) = some u := fun j u hu => by
    rw [Addr.add_lit, Nat.zero_add, cell_of_row w b j _ t' (0, 0) hx]; simpa using hu
  by_cases hr : q.length + 1 ≤ cap
  · have hlt : off + q.length < cur.size := by omega
    have hrun := run_append_room_cells (P := P) w 26 ty 3 i hT hi g off q.length cap ⟨b, 0, none⟩ 1 1 [.int .i64 x] (by rw [hz1]; rfl) hnews (by simp [Value.oneCell']) hr
      (fun j hj => by
        obtain rfl : j = 0 := by simpa using hj
        rw [hz1, Nat.mul_one, Nat.add_zero, cell_of_row w g _ cur 3 (0, 0) h2, Array.getElem?_eq_getElem hlt]; rfl)
      (fun j hj => frozen_of_row w g _ cur 3 h2)
    rw [hz1, Nat.mul_one] at hrun
    refine ⟨_, _, g, hrun, ⟨off, cap, cur.setIfInBounds (off + q.length) (.int .i64 x), by simp, heap_setCell_same w g _ cur 3 _ h2, by simpa using h3, by simpa using hr, fun i hi => ?_⟩, ⟨rfl, rfl, rfl, by show _ ≤ (w.setCell _ _).heap.size; simp [World.setCell], fun k _ hk => heap_setCell_other w _ k _ (fun e => hk (by rw [e]))⟩, .inl rfl⟩
    have hi' : i < q.length + 1 := by simpa using hi
    by_cases e : i = q.length
    · subst e
      simp [hlt]
    · rw [Array.getElem?_setIfInBounds_ne (by omega), h5 i (by omega), List.getElem_append_left (by omega)]
  · obtain ⟨v', w', hrun, r1, r2⟩ := run_append_arg_grows (P := P) w 26 ty 3 i (.int .i64 0) 1 8 hT hi hz0 hz1 hz2 rfl (by decide) ⟨g, off, none⟩ q.length cap (q.map fun n : Nat => .int .i64 (n : Int)) (by simp)
      (fun j u hu => by
        have hj : j < q.length := by have := (List.getElem?_eq_some_iff.1 hu).1; simpa using this
        rw [Addr.add_lit, cell_of_row w g _ cur 3 (0, 0) h2, h5 j hj]
        rw [List.getElem?_map, List.getElem?_eq_getElem hj] at hu
        exact hu) ⟨b, 0, none⟩ 1 1 [.int .i64 x] rfl hnews (by omega) (by simp [maxLen]; omega) (by omega)
    obtain ⟨hl, hv⟩ := r1
    rcases hv with ⟨_, h0⟩ | ⟨g', cap', cur', rfl, hbg, hg, hnc, hcm, hcs, htake⟩
    · omega
    · have hgg : g' < w'.heap.size := (Array.getElem?_eq_some_iff.1 hg).1
      · refine ⟨_, w', g', hrun, ⟨0, cap', cur', by simp, hg, by omega, by simpa using hnc, fun i hi => ?_⟩, ⟨r2.os, r2.tape, r2.output, r2.size, fun k hk _ => r2.block k hk (by simp)⟩, .inr hbg⟩
        have hi' : i < q.length + 1 := by simpa using hi
        have e : (cur'.toList.take ((q.length + 1) * 1))[i]? = (q.map (fun n : Nat => Value.int .i64 (n : Int)) ++ [.int .i64 x])[i]? := by rw [htake]
        rw [List.getElem?_take, if_pos (by omega)] at e
        rw [Nat.zero_add, ← Array.getElem?_toList, e]
        by_cases e2 : i = q.length
        · subst e2; simp
        · rw [List.getElem?_append_left (by simp; omega), List.getElem?_map, List.getElem?_eq_getElem (by omega), List.getElem_append_left (by omega)]; rfl
theorem wpListIn_append_qu {F : Fence} {n : Nat} {P : Program} (hT : P.underlying 26 = some (.slice 3)) (hI : (P.info? 3).map (fun i => (i.zero, i.size, i.bytes)) = some (some (.int .i64 0), 1, 8))
    {w : World} {g : Nat} {v : Value} {q : List Nat} {x b : Nat} {t' : TypeId} (hq : QuR w g v q) (hx : w.heap[b]? = some (.cells #[.int .i64 x] t' (0, 0))) (hn : q.length ≤ 1000000)
    {ops : Array Oper} {rest : List Oper} {o : Oper} {a : Act} {Q : Exit → Act → World → Prop} (hgd : o.guard = none) (s y : Operand)
    (ho : o.op = .call { callee := .builtin .append, args := #[s, y], argTypes := #[26, 26] }) (hs : a.eval s = v) (hy : a.eval y = .slice (some ⟨b, 0, none⟩) 1 1)
    (h : ∀ v' w' g', QuR w' g' v' (q ++ [x]) → w.grownBy w' (some g) → (g' = g ∨ w.heap.size ≤ g') → wpListIn F n P ops Q rest (a.put o.dst v') w') : wpListIn F n P ops Q (o :: rest) a w := by
  refine wpListIn_plain hgd fun K hK' => ?_
  obtain ⟨v', w', g', hrun, r1, r2, r3⟩ := run_append_qu hT hI w g v q x b t' o.type hq hx hn
  unfold Oper.wpIn
  refine ⟨?_, ?_⟩
  · simp [Oper.about, ho, resolve, Target.leads, Sem.run_pure]
  · rw [Oper.semAt_plain F _ _ (by rw [ho]; intro c hc'; cases hc')]
    simp [execOp, ho, resolve, invoke, builtin, hs, hy, hrun, Result.andThen]
    exact hK' _ _ (h v' w' g' r1 r2 r3)
structure Kept (S : Nat → Prop) (w w' : World) : Prop where
  os : w'.os = w.os
  tape : w'.tape = w.tape
  output : w'.output = w.output
  size : w.heap.size ≤ w'.heap.size
  block : ∀ k, k < w.heap.size → ¬ S k → w'.heap[k]? = w.heap[k]?
theorem Kept.refl (S : Nat → Prop) (w : World) : Kept S w w := ⟨rfl, rfl, rfl, Nat.le_refl _, fun _ _ _ => rfl⟩
theorem Kept.trans {S : Nat → Prop} {a b c : World} (h : Kept S a b) (k : Kept S b c) : Kept S a c :=
  ⟨k.os.trans h.os, k.tape.trans h.tape, k.output.trans h.output, Nat.le_trans h.size k.size, fun i hi hn => (k.block i (Nat.lt_of_lt_of_le hi h.size) hn).trans (h.block i hi hn)⟩
theorem Kept.grown {S : Nat → Prop} {w a b : World} {row : Option Nat} (h : Kept S w a) (hg : a.grownBy b row) (hr : ∀ k, row = some k → S k ∨ w.heap.size ≤ k) : Kept S w b :=
  ⟨hg.os.trans h.os, hg.tape.trans h.tape, hg.output.trans h.output, Nat.le_trans h.size hg.size, fun i hi hn => (hg.block i (Nat.lt_of_lt_of_le hi h.size) (fun e => by
    rcases hr i e.symm with h1 | h1
    · exact hn h1
    · omega)).trans (h.block i hi hn)⟩
theorem Kept.alloc {S : Nat → Prop} {w a : World} (h : Kept S w a) (o : Obj) : Kept S w (a.alloc o) := h.grown (World.grownBy_alloc a o none) (fun k e => by cases e)
theorem Kept.below {S : Nat → Prop} {w a b : World} (h : Kept S w a) (hb : Below a.heap.size a b) : Kept S w b :=
  h.grown (row := none) ⟨hb.os, hb.tape, hb.output, hb.size, fun k hk _ => hb.block k hk⟩ (fun k e => by cases e)
theorem grownBy_set (w : World) (a : Addr) (u : Value) : w.grownBy (w.setCell a u) (some a.block) :=
  ⟨rfl, rfl, rfl, by simp [World.setCell], fun k _ hk => heap_setCell_other w a k u (fun e => hk (by rw [e]))⟩
theorem Kept.set {S : Nat → Prop} {w a : World} (h : Kept S w a) {p : Addr} (u : Value) (hp : S p.block ∨ w.heap.size ≤ p.block) : Kept S w (a.setCell p u) :=
  h.grown (grownBy_set a p u) (fun k e => by cases e; exact hp)
theorem Kept.drew {S : Nat → Prop} {w a : World} (h : Kept S w a) : Kept S w a.drew := ⟨h.os, h.tape, h.output, h.size, h.block⟩
theorem Kept.toBelow {S : Nat → Prop} {w a : World} {B : Nat} (h : Kept S w a) (hB : B ≤ w.heap.size) (hS : ∀ k, S k → B ≤ k) : Below B w a :=
  ⟨h.os, h.tape, h.output, h.size, fun k hk => h.block k (by omega) (fun hs => by have := hS k hs; omega)⟩
theorem Kept.mono {S S' : Nat → Prop} {w a : World} (h : Kept S w a) (hS : ∀ k, S k → S' k) : Kept S' w a := ⟨h.os, h.tape, h.output, h.size, fun k hk hn => h.block k hk (fun hs => hn (hS k hs))⟩
def encS (s : St) : List Value := [.int .i64 s.1, .bool s.2]
theorem encS_len (s : St) : (encS s).length = 2 := rfl
structure BfsW (w wr : World) (N B nb : Nat) (v : Value) (l : List Ac) (tk pl t : Nat) (rc : List Bool) (byC bkC : List Value) (vq : Value) (g : Nat) (qu : List Nat) : Prop where
  net : NetR wr B nb v l tk pl rc
  glt : ∀ k, v.ownBlock = some k → k < N
  nlt : nb < N
  hN : N = w.heap.size
  b5 : Box wr N 66 [.pointer (some ⟨nb, 0, none⟩)]
  b7 : Box wr (N + 1) 3 [.int .i64 t]
  byB : Box wr (N + 1 + 1) 134 byC
  bkB : Box wr (N + 1 + 1 + 1) 112 bkC
  bq : Box wr (N + 1 + 1 + 1 + 1 + 1) 26 [vq]
  q : QuR wr g vq qu
  gge : N + 1 + 1 + 1 + 1 ≤ g
  gne : g ≠ N + 1 + 1 + 1 + 1 + 1
  kept : Kept (fun k => k = nb) w wr
theorem Box.grown {w w' : World} {b : Nat} {e : TypeId} {vs : List Value} {row : Option Nat} (h : Box w b e vs) (hg : w.grownBy w' row) (hne : some b ≠ row) : Box w' b e vs := h.kept hg hne
theorem BfsW.step {w wr wr' : World} {N B nb : Nat} {v : Value} {l : List Ac} {tk pl t : Nat} {rc : List Bool} {byC bkC : List Value} {vq : Value} {g : Nat} {qu : List Nat} {row : Option Nat}
    (h : BfsW w wr N B nb v l tk pl t rc byC bkC vq g qu) (hg : wr.grownBy wr' row) (hr : ∀ k, row = some k → k ≠ nb ∧ v.ownBlock ≠ some k ∧ k ≠ N ∧ k ≠ N + 1 ∧ k ≠ N + 1 + 1 ∧ k ≠ N + 1 + 1 + 1 ∧ k ≠ N + 1 + 1 + 1 + 1 + 1 ∧ k ≠ g ∧ w.heap.size ≤ k) :
    BfsW w wr' N B nb v l tk pl t rc byC bkC vq g qu := by
  have hn : ∀ b, (∀ k, row = some k → k ≠ b) → some b ≠ row := fun b hb e => hb b e.symm rfl
  exact ⟨⟨h.net.box.grown hg (hn _ fun k e => (hr k e).1), h.net.own.kept hg (by
      cases hv : v.ownBlock with
      | none => exact .inl rfl
      | some b => exact .inr (fun e => (hr b e.symm).2.1 hv)), h.net.ne, h.net.n36⟩, h.glt, h.nlt, h.hN, h.b5.grown hg (hn _ fun k e => (hr k e).2.2.1), h.b7.grown hg (hn _ fun k e => (hr k e).2.2.2.1), h.byB.grown hg (hn _ fun k e => (hr k e).2.2.2.2.1),
    h.bkB.grown hg (hn _ fun k e => (hr k e).2.2.2.2.2.1), h.bq.grown hg (hn _ fun k e => (hr k e).2.2.2.2.2.2.1), h.q.kept hg (hn _ fun k e => (hr k e).2.2.2.2.2.2.2.1), h.gge, h.gne,
    h.kept.grown hg (fun k e => .inr (hr k e).2.2.2.2.2.2.2.2)⟩
section
variable {w wr : World} {N B nb : Nat} {v : Value} {l : List Ac} {tk pl t : Nat} {rc : List Bool} {byC bkC : List Value} {vq : Value} {g : Nat} {qu : List Nat}
theorem BfsW.alloc (h : BfsW w wr N B nb v l tk pl t rc byC bkC vq g qu) (o : Obj) : BfsW w (wr.alloc o) N B nb v l tk pl t rc byC bkC vq g qu :=
  h.step (World.grownBy_alloc wr o none) (fun k e => by cases e)
theorem BfsW.drew (h : BfsW w wr N B nb v l tk pl t rc byC bkC vq g qu) : BfsW w wr.drew N B nb v l tk pl t rc byC bkC vq g qu :=
  h.step (row := none) ⟨rfl, rfl, rfl, Nat.le_refl _, fun _ _ _ => rfl⟩ (fun k e => by cases e)
theorem BfsW.later {wr' : World} (h : BfsW w wr N B nb v l tk pl t rc byC bkC vq g qu) (hb : Below wr.heap.size wr wr') : BfsW w wr' N B nb v l tk pl t rc byC bkC vq g qu :=
  h.step (row := none) ⟨hb.os, hb.tape, hb.output, hb.size, fun k hk _ => hb.block k hk⟩ (fun k e => by cases e)
theorem BfsW.vne (h : BfsW w wr N B nb v l tk pl t rc byC bkC vq g qu) {k : Nat} (hk : N ≤ k) : v.ownBlock ≠ some k := fun e => by have := h.glt k e; omega
theorem BfsW.setRc (h : BfsW w wr N B nb v l tk pl t rc byC bkC vq g qu) {x o : Nat} (ho : o = 3 + x) : BfsW w (wr.setCell ⟨nb, o, none⟩ (.bool true)) N B nb v l tk pl t (rc.set x true) byC bkC vq g qu := by
  subst ho
  have hn := h.nlt
  refine ⟨⟨?_, h.net.own.other _ h.net.ne, h.net.ne, by simpa using h.net.n36⟩, h.glt, h.nlt, h.hN, h.b5.other _ (by dsimp only; omega), h.b7.other _ (by dsimp only; omega), h.byB.other _ (by dsimp only; omega), h.bkB.other _ (by dsimp only; omega), h.bq.other _ (by dsimp only; omega),
    h.q.other _ (by have := h.gge; dsimp only; omega), h.gge, h.gne, h.kept.set _ (.inl rfl)⟩
  have := h.net.box.set (3 + x) (.bool true)
  rw [show (netCells v tk pl rc).set (3 + x) (.bool true) = netCells v tk pl (rc.set x true) by
    rw [show 3 + x = x + 1 + 1 + 1 by omega]; simp [netCells, List.map_set]] at this
  exact this
theorem BfsW.setBy (h : BfsW w wr N B nb v l tk pl t rc byC bkC vq g qu) (o : Nat) (u : Value) : BfsW w (wr.setCell ⟨N + 1 + 1, o, none⟩ u) N B nb v l tk pl t rc (byC.set o u) bkC vq g qu := by
  have hn := h.nlt
  have h0 := h.hN
  exact ⟨⟨h.net.box.other _ (by dsimp only; omega), h.net.own.other _ (h.vne (by dsimp only; omega)), h.net.ne, h.net.n36⟩, h.glt, h.nlt, h.hN, h.b5.other _ (by dsimp only; omega), h.b7.other _ (by dsimp only; omega), h.byB.set _ _, h.bkB.other _ (by dsimp only; omega), h.bq.other _ (by dsimp only; omega),
    h.q.other _ (by have := h.gge; dsimp only; omega), h.gge, h.gne, h.kept.set _ (.inr (by dsimp only; omega))⟩
theorem BfsW.setBk (h : BfsW w wr N B nb v l tk pl t rc byC bkC vq g qu) (o : Nat) (u : Value) : BfsW w (wr.setCell ⟨N + 1 + 1 + 1, o, none⟩ u) N B nb v l tk pl t rc byC (bkC.set o u) vq g qu := by
  have hn := h.nlt
  have h0 := h.hN
  exact ⟨⟨h.net.box.other _ (by dsimp only; omega), h.net.own.other _ (h.vne (by dsimp only; omega)), h.net.ne, h.net.n36⟩, h.glt, h.nlt, h.hN, h.b5.other _ (by dsimp only; omega), h.b7.other _ (by dsimp only; omega), h.byB.other _ (by dsimp only; omega), h.bkB.set _ _, h.bq.other _ (by dsimp only; omega),
    h.q.other _ (by have := h.gge; dsimp only; omega), h.gge, h.gne, h.kept.set _ (.inr (by dsimp only; omega))⟩
theorem BfsW.setQ (h : BfsW w wr N B nb v l tk pl t rc byC bkC vq g qu) {vq' : Value} {qu' : List Nat} (hq : QuR wr g vq' qu') : BfsW w (wr.setCell ⟨N + 1 + 1 + 1 + 1 + 1, 0, none⟩ vq') N B nb v l tk pl t rc byC bkC vq' g qu' := by
  have hn := h.nlt
  have h0 := h.hN
  exact ⟨⟨h.net.box.other _ (by dsimp only; omega), h.net.own.other _ (h.vne (by dsimp only; omega)), h.net.ne, h.net.n36⟩, h.glt, h.nlt, h.hN, h.b5.other _ (by dsimp only; omega), h.b7.other _ (by dsimp only; omega), h.byB.other _ (by dsimp only; omega), h.bkB.other _ (by dsimp only; omega), h.bq.set 0 _,
    hq.other _ (by have := h.gne; dsimp only; omega), h.gge, h.gne, h.kept.set _ (.inr (by dsimp only; omega))⟩
theorem BfsW.grow (h : BfsW w wr N B nb v l tk pl t rc byC bkC vq g qu) {wr' : World} {vq' : Value} {g' : Nat} {qu' : List Nat} (hq : QuR wr' g' vq' qu') (hg : wr.grownBy wr' (some g)) (hg' : g' = g ∨ wr.heap.size ≤ g') :
    BfsW w (wr'.setCell ⟨N + 1 + 1 + 1 + 1 + 1, 0, none⟩ vq') N B nb v l tk pl t rc byC bkC vq' g' qu' := by
  have hn := h.nlt
  have h0 := h.hN
  have h1 := h.gge
  have h2 := h.gne
  have h3 := h.bq.lt
  have hne : ∀ b, b ≠ g → some b ≠ some g := fun b hb e => hb (Option.some.inj e)
  exact ⟨⟨(h.net.box.grown hg (hne _ (by omega))).other _ (by dsimp only; omega), (h.net.own.kept hg (.inr (h.vne (by omega)))).other _ (h.vne (by dsimp only; omega)), h.net.ne, h.net.n36⟩, h.glt, h.nlt, h.hN,
    (h.b5.grown hg (hne _ (by omega))).other _ (by dsimp only; omega), (h.b7.grown hg (hne _ (by omega))).other _ (by dsimp only; omega), (h.byB.grown hg (hne _ (by omega))).other _ (by dsimp only; omega), (h.bkB.grown hg (hne _ (by omega))).other _ (by dsimp only; omega), (h.bq.grown hg (hne _ (by omega))).set 0 _,
    hq.other _ (by dsimp only; omega), by omega, by omega, (h.kept.grown hg (fun k e => by cases e; right; omega)).set _ (.inr (by dsimp only; omega))⟩
end
end Go.Proofs.YtflchbejjofppaaGreatDoor
/- What a search keeps in memory, at its start. -/
namespace Go.Proofs.YtflchbejjofppaaGreatDoor
open Go Go.Proofs Go.RowKit
def wrote : List Value → Nat → List Value → List Value
  | vs, _, [] => vs
  | vs, o, u :: us => wrote (vs.set o u) (o + 1) us
theorem wrote_get (us : List Value) : ∀ (o : Nat) (vs : List Value) (i : Nat), (wrote vs o us)[i]? = if o ≤ i ∧ i < o + us.length ∧ i < vs.length then us[i - o]? else vs[i]? := by
  induction us with
  | nil => intro o vs i; rw [if_neg (by simp; omega)]; rfl
  | cons u us ih =>
    intro o vs i
    rw [wrote, ih]
    simp only [List.length_set, List.length_cons]
    by_cases h : o + 1 ≤ i ∧ i < o + 1 + us.length ∧ i < vs.length
    · rw [if_pos h, if_pos (by omega), show i - o = (i - (o + 1)) + 1 by omega, List.getElem?_cons_succ]
    · rw [if_neg h]
      by_cases e : o = i
      · subst e
        by_cases h2 : o < vs.length
        · rw [if_pos (by omega)]; simp [h2]
        · rw [if_neg (by omega), List.getElem?_set]; simp [h2]
      · rw [if_neg (by omega), List.getElem?_set, if_neg e]
theorem Box.setCells {b : Nat} {e : TypeId} (us : List Value) : ∀ {w : World} {vs : List Value} (o : Nat), Box w b e vs → Box (w.setCells b o us) b e (wrote vs o us) := by
  induction us with
  | nil => intro w vs o h; exact h
  | cons u us ih => intro w vs o h; exact ih (o + 1) (h.set o u)
theorem grownBy_setCells (b : Nat) (us : List Value) : ∀ (w : World) (o : Nat), w.grownBy (w.setCells b o us) (some b) := by
  induction us with
  | nil => intro w o; exact ⟨rfl, rfl, rfl, Nat.le_refl _, fun _ _ _ => rfl⟩
  | cons u us ih =>
    intro w o
    have h1 := grownBy_set w ⟨b, o, none⟩ u
    have h2 := ih (w.setCell ⟨b, o, none⟩ u) (o + 1)
    exact ⟨h2.os.trans h1.os, h2.tape.trans h1.tape, h2.output.trans h1.output, Nat.le_trans h1.size h2.size, fun k hk hn => (h2.block k (Nat.lt_of_lt_of_le hk h1.size) hn).trans (h1.block k hk hn)⟩
theorem setCells_size (b : Nat) (us : List Value) : ∀ (w : World) (o : Nat), (w.setCells b o us).heap.size = w.heap.size := by
  induction us with
  | nil => intro w o; rfl
  | cons u us ih => intro w o; rw [World.setCells, ih]; simp [World.setCell]
theorem net_blank (v : Value) (tk pl : Nat) (rc : List Bool) (h : rc.length = 36) : wrote (netCells v tk pl rc) 3 (List.replicate 36 (.bool false)) = netCells v tk pl (List.replicate 36 false) := by
  apply List.ext_getElem?
  intro i
  rw [wrote_get]
  have hl : (netCells v tk pl rc).length = 39 := by simp [netCells, h]
  rw [hl, List.length_replicate]
  by_cases hi : 3 ≤ i ∧ i < 3 + 36 ∧ i < 39
  · obtain ⟨j, rfl⟩ : ∃ j, i = j + 1 + 1 + 1 := ⟨i - 3, by omega⟩
    rw [if_pos hi]
    simp only [netCells, List.getElem?_cons_succ, List.getElem?_map, List.getElem?_replicate]
    rw [if_pos (by omega), if_pos (by omega)]; rfl
  · rw [if_neg hi]
    by_cases h3 : i < 3
    · match i, h3 with
      | 0, _ => rfl
      | 1, _ => rfl
      | 2, _ => rfl
    · rw [List.getElem?_eq_none (by omega), List.getElem?_eq_none (by simp [netCells]; omega)]
theorem start_facts (w : World) (B nb : Nat) (v : Value) (l : List Ac) (tk pl : Nat) (rc : List Bool) (hnet : NetR w B nb v l tk pl rc) (t : Nat) (W1 : World)
    (hW : ((w.alloc (.cells #[.pointer (some ⟨nb, 0, none⟩)] 66)).alloc (.cells #[.int .i64 t] 3)).setCells nb 3 (List.replicate 36 (.bool false)) = W1) :
    W1.heap.size = w.heap.size + 1 + 1 ∧ NetR W1 B nb v l tk pl (List.replicate 36 false) ∧ Box W1 w.heap.size 66 [.pointer (some ⟨nb, 0, none⟩)] ∧ Box W1 (w.heap.size + 1) 3 [.int .i64 t] ∧ Kept (fun k => k = nb) w W1 := by
  subst hW
  have hlt := hnet.box.lt
  have hg := grownBy_setCells nb (List.replicate 36 (.bool false)) ((w.alloc (.cells #[.pointer (some ⟨nb, 0, none⟩)] 66)).alloc (.cells #[.int .i64 t] 3)) 3
  have hn := (hnet.alloc (.cells #[.pointer (some ⟨nb, 0, none⟩)] 66)).alloc (.cells #[.int .i64 t] 3)
  have hb := hn.box.setCells (List.replicate 36 (.bool false)) 3
  rw [net_blank v tk pl rc hnet.n36] at hb
  refine ⟨by rw [setCells_size]; simp, ⟨hb, hn.own.kept hg (.inr hn.ne), hn.ne, by simp⟩, ?_, ?_, ((Kept.refl _ w).alloc _).alloc _ |>.grown hg (fun k e => by cases e; exact .inl rfl)⟩
  · exact ((Box.new w #[.pointer (some ⟨nb, 0, none⟩)] 66).alloc _).grown hg (fun e => by cases e; omega)
  · exact (Box.newAt (w.alloc (.cells #[.pointer (some ⟨nb, 0, none⟩)] 66)) #[.int .i64 t] 3 (by simp)).grown hg (fun e => by cases e; omega)
theorem bfsw_start (w : World) (B nb : Nat) (v : Value) (l : List Ac) (tk pl : Nat) (rc : List Bool) (hnet : NetR w B nb v l tk pl rc) (t u : Nat) (byA bkA : Array Value) (W1 : World)
    (hW : ((w.alloc (.cells #[.pointer (some ⟨nb, 0, none⟩)] 66)).alloc (.cells #[.int .i64 t] 3)).setCells nb 3 (List.replicate 36 (.bool false)) = W1) :
    BfsW w (((((W1.setCell ⟨nb, 3 + u, none⟩ (.bool true)).alloc (.cells byA 134)).alloc (.cells bkA 112)).alloc (.cells #[.int .i64 u] 3)).alloc (.cells #[.slice (some ⟨w.heap.size + 1 + 1 + 1 + 1, 0, none⟩) 1 1] 26))
      w.heap.size B nb v l tk pl t ((List.replicate 36 false).set u true) byA.toList bkA.toList (.slice (some ⟨w.heap.size + 1 + 1 + 1 + 1, 0, none⟩) 1 1) (w.heap.size + 1 + 1 + 1 + 1) [u] := by
  obtain ⟨hz, hn, h5, h7, hk⟩ := start_facts w B nb v l tk pl rc hnet t W1 hW
  have hlt := hnet.box.lt
  have hz2 : (W1.setCell ⟨nb, 3 + u, none⟩ (.bool true)).heap.size = w.heap.size + 1 + 1 := by simp [World.setCell, hz]
  have hbox : Box (W1.setCell ⟨nb, 3 + u, none⟩ (.bool true)) nb 96 (netCells v tk pl ((List.replicate 36 false).set u true)) := by
    have := hn.box.set (3 + u) (.bool true)
    rw [show (netCells v tk pl (List.replicate 36 false)).set (3 + u) (.bool true) = netCells v tk pl ((List.replicate 36 false).set u true) by
      rw [show 3 + u = u + 1 + 1 + 1 by omega]; simp only [netCells, List.set_cons_succ, List.map_set]] at this
    exact this
  generalize hW2 : W1.setCell ⟨nb, 3 + u, none⟩ (.bool true) = W2 at *
  have hn2 : NetR W2 B nb v l tk pl ((List.replicate 36 false).set u true) := ⟨hbox, by rw [← hW2]; exact hn.own.other _ hn.ne, hn.ne, by simp⟩
  have h52 : Box W2 w.heap.size 66 [.pointer (some ⟨nb, 0, none⟩)] := by rw [← hW2]; exact h5.other _ (by dsimp only; omega)
  have h72 : Box W2 (w.heap.size + 1) 3 [.int .i64 t] := by rw [← hW2]; exact h7.other _ (by dsimp only; omega)
  have hk2 : Kept (fun k => k = nb) w W2 := by rw [← hW2]; exact hk.set _ (.inl rfl)
  have hq := QuR.lit ((W2.alloc (.cells byA 134)).alloc (.cells bkA 112)) u
  have e : ((W2.alloc (.cells byA 134)).alloc (.cells bkA 112)).heap.size = w.heap.size + 1 + 1 + 1 + 1 := by simp [hz2]
  rw [e] at hq
  refine ⟨(((hn2.alloc _).alloc _).alloc _).alloc _, fun k h => (World.ownsRow.lt hnet.own k h).2, hlt, rfl, (((h52.alloc _).alloc _).alloc _).alloc _, (((h72.alloc _).alloc _).alloc _).alloc _,
    (((Box.newAt W2 byA 134 hz2).alloc _).alloc _).alloc _, ((Box.newAt (W2.alloc (.cells byA 134)) bkA 112 (by simp [hz2])).alloc _).alloc _, Box.newAt _ #[_] 26 (by simp [hz2]), hq.alloc _, by omega, by omega, (((hk2.alloc _).alloc _).alloc _).alloc _⟩
end Go.Proofs.YtflchbejjofppaaGreatDoor
/- A loop with a measure that stands in no slot; frames whose other slots hold whatever; the marks that ranges over a function leave behind them. -/
namespace Go.Proofs.YtflchbejjofppaaGreatDoor
open Go Go.Proofs Go.RowKit Go.Shelf
section
variable {P : Program} {Q : Exit → Act → World → Prop} {a : Act} {w : World}
theorem least_exists (p : Nat → Prop) (h : ∃ n, p n) : ∃ n, p n ∧ ∀ k, p k → n ≤ k := by
  obtain ⟨n, hn⟩ := h
  induction n using Nat.strongRecOn with
  | _ n ih =>
    by_cases h : ∃ k, k < n ∧ p k
    · obtain ⟨k, hk, hp⟩ := h; exact ih k hk hp
    · exact ⟨n, hn, fun k hk => Nat.le_of_not_lt fun hlt => h ⟨k, hlt, hk⟩⟩
open Classical in
noncomputable def leastN (p : Nat → Prop) : Nat := if h : ∃ n, p n then Classical.choose (least_exists p h) else 0
theorem leastN_spec {p : Nat → Prop} (h : ∃ n, p n) : p (leastN p) ∧ ∀ k, p k → leastN p ≤ k := by
  unfold leastN; rw [dif_pos h]; exact Classical.choose_spec (least_exists p h)
theorem leastN_lt {p q : Nat → Prop} {m : Nat} (h : p m) (hm : m < leastN q) : leastN p < leastN q := Nat.lt_of_le_of_lt ((leastN_spec ⟨m, h⟩).2 m h) hm
theorem wp_loop_g {c : Code} (I : Nat → Act → World → Prop) (m : Nat) (h₀ : I m a w)
    (round : ∀ m a w, I m a w → c.wp P (Exit.then (fun a' w' => ∃ m', m' < m ∧ I m' a' w') Q) a w) : (Code.loop c).wp P Q a w := by
  refine wp_loop (fun a w => ∃ m, I m a w) (fun a w => leastN fun m => I m a w) ⟨m, h₀⟩ fun a w h => ?_
  obtain ⟨h1, _⟩ := leastN_spec h
  have := round _ a w h1
  refine (wpIn_wide (n := 0)).1 (wpIn_mono ((wpIn_wide (n := 0)).2 this) fun e a' w' hq => ?_)
  cases e with
  | normal =>
    obtain ⟨m', hm, hi⟩ := hq
    exact ⟨⟨m', hi⟩, leastN_lt (p := fun m => I m a' w') hi hm⟩
  | _ => exact hq
end
theorem list_range (L : List Value) (n : Nat) (h : L.length = n) : L = (List.range n).map fun i => L.getD i undef := by
  apply List.ext_getElem?
  intro i
  by_cases hi : i < L.length
  · simp [← h, hi]
  · rw [List.getElem?_eq_none (by omega), List.getElem?_eq_none (by simp; omega)]
def NoCells (W : World) (row : Option Nat) : Prop := ∀ r, row = some r → ∃ o : Obj, W.heap[r]? = some o ∧ o.isCells = false
theorem NoCells.box {W : World} {row : Option Nat} (h : NoCells W row) {b : Nat} {e : TypeId} {vs : List Value} (hb : Box W b e vs) : some b ≠ row := fun e' => by
  obtain ⟨o, ho, hc⟩ := h b e'.symm
  rw [show W.heap[b]? = _ from hb] at ho; cases ho; cases hc
theorem NoCells.own {W : World} {row : Option Nat} (h : NoCells W row) {α : Type} {f : α → List Value} {sz : Nat} {e : TypeId} {base : Nat} {v : Value} {l : List α} (ho : Own f sz e W base v l) : v.ownBlock = none ∨ v.ownBlock ≠ row := by
  rcases ho.2 with ⟨rfl, _⟩ | ⟨g, cap, cur, rfl, _, hg, _⟩
  · exact .inl rfl
  · refine .inr fun e' => ?_
    obtain ⟨o, hx, hc⟩ := h g (by rw [← e']; rfl)
    rw [hg] at hx; cases hx; cases hc
theorem NoCells.qu {W : World} {row : Option Nat} (h : NoCells W row) {g : Nat} {v : Value} {q : List Nat} (hq : QuR W g v q) : some g ≠ row := fun e' => by
  obtain ⟨off, cap, cur, _, hg, _⟩ := hq
  obtain ⟨o, ho, hc⟩ := h g e'.symm
  rw [hg] at ho; cases ho; cases hc
theorem NoCells.cell {W : World} {row : Option Nat} (h : NoCells W row) {a : Addr} {v : Value} (hc : W.cell? a = some v) : some a.block ≠ row := fun e' => by
  obtain ⟨o, ho, hc'⟩ := h a.block e'.symm
  obtain ⟨o', ho', hc''⟩ := cells_of_cell hc
  rw [ho] at ho'; cases ho'; rw [hc'] at hc''; cases hc''
theorem ItR.step {w w' : World} {p B nb : Nat} {v : Value} {l : List Ac} {u : Nat} {wo : Int} {row : Option Nat} (h : ItR w p B nb v l u wo) (hg : w.grownBy w' row) (hr : NoCells w row) : ItR w' p B nb v l u wo :=
  ⟨h.b1.grown hg (hr.box h.b1), h.b2.grown hg (hr.box h.b2), h.b3.grown hg (hr.box h.b3), ⟨(World.cell?_of_block (hg.block nb h.net.lt (hr.cell (a := ⟨nb, 0, none⟩) h.net.c0))).trans h.net.c0, Nat.lt_of_lt_of_le h.net.lt hg.size, h.net.own.kept hg (hr.own h.net.own)⟩⟩
theorem KpS.b {p B nb : Nat} {v : Value} {l : List Ac} {u : Nat} {wo : Int} (W : World) (k : Nat) (o o' : Obj) (h : W.heap[k]? = some o) (ho : o.isCells = false) : KpS p B nb v l u wo W (W.putObj k o') :=
  ⟨fun hi => hi.step (grownBy_putObj' W k o') (fun r e => by cases e; exact ⟨o, h, ho⟩), (grownBy_putObj' W k o').size⟩
theorem BfsW.noCells {w wr wr' : World} {N B nb : Nat} {v : Value} {l : List Ac} {tk pl t : Nat} {rc : List Bool} {byC bkC : List Value} {vq : Value} {g : Nat} {qu : List Nat} {row : Option Nat}
    (h : BfsW w wr N B nb v l tk pl t rc byC bkC vq g qu) (hg : wr.grownBy wr' row) (hr : NoCells wr row) (hge : ∀ k, row = some k → w.heap.size ≤ k) : BfsW w wr' N B nb v l tk pl t rc byC bkC vq g qu := by
  have hx : ∀ b, some b ≠ row → ∀ k, row = some k → k ≠ b := fun b hb k e e' => hb (by rw [e, e'])
  refine h.step hg fun k e => ⟨hx _ (hr.box h.net.box) k e, ?_, hx _ (hr.box h.b5) k e, hx _ (hr.box h.b7) k e, hx _ (hr.box h.byB) k e, hx _ (hr.box h.bkB) k e, hx _ (hr.box h.bq) k e, hx _ (hr.qu h.q) k e, hge k e⟩
  rcases hr.own h.net.own with h1 | h1
  · rw [h1]; simp
  · rw [← e]; exact h1
def marksOf (Ds : List Nat) : List Deferred := Ds.map fun D => { target := .collected D, args := #[] }
def MarksIn (W : World) (Ds : List Nat) : Prop := ∀ D ∈ Ds, W.heap[D]? = some (.deferred (some []))
theorem MarksIn.keeps {W W' : World} {Ds : List Nat} (h : MarksIn W Ds) (hk : KeepsOthers W W') : MarksIn W' Ds := fun D hD => hk.same D _ (h D hD) rfl
theorem MarksIn.later {W W' : World} {Ds : List Nat} (h : MarksIn W Ds) (hb : Below W.heap.size W W') : MarksIn W' Ds := fun D hD => (hb.block D (Array.getElem?_eq_some_iff.1 (h D hD)).1).trans (h D hD)
theorem putObj_kept {S : Nat → Prop} {w W : World} {D : Nat} {o : Obj} (h : Kept S w W) (hD : w.heap.size ≤ D) : Kept S w (W.putObj D o) :=
  h.grown (grownBy_putObj' W D o) (fun k e => by cases e; exact .inr hD)
theorem leaves_marks {w0s : Nat} {F : Fence} {n : Nat} {P : Program} {fn : Func} {tmps : Array Value} {R : Ending → World → Prop} {v : Value} (hres : ∀ W : World, (results fn tmps).run P W = .ok v W) (G : World → Prop)
    (hG : ∀ (W : World) (D : Nat) (o : Obj), G W → W.heap[D]? = some o → o.isCells = false → w0s ≤ D → G (W.putObj D (.deferred none))) (hR : ∀ W, G W → R (.returned v) W) :
    ∀ (Ds : List Nat) (W : World), Ds.Nodup → MarksIn W Ds → (∀ D ∈ Ds, w0s ≤ D) → G W → LeavesInM F n P fn tmps R (marksOf Ds) .returning W
  | [], W, _, _, _, hg => ⟨v, hres W, hR W hg⟩
  | D :: Ds, W, hn, hm, hw, hg => by
    have hD := hm D (by simp)
    obtain ⟨h1, h2⟩ := List.nodup_cons.1 hn
    refine ⟨by simp, .inl ⟨D, _, rfl, run_takeDeferred hD, ?_⟩⟩
    refine leaves_marks hres G hG hR Ds _ h2 (fun E hE => ?_) (fun E hE => hw E (by simp [hE])) (hG W D _ hg hD rfl (hw D (by simp)))
    rw [World.putObj_heap_other (by intro e; subst e; exact h1 hE)]
    exact hm E (by simp [hE])
end Go.Proofs.YtflchbejjofppaaGreatDoor
