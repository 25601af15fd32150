/- Lemmas on the way to the law PathBests (part 1): Sa Sb Sc -/
import Derived.Test.YtahpdkkpnkhnhaaGreatDoorLib16
set_option linter.unusedVariables false
set_option linter.unusedSimpArgs false

/- Plain: tasks that meet; the starts that the reference tries. -/
namespace Go.Proofs.YtahpdkkpnkhnhaaGreatDoor
open Go Go.Proofs Go.RowKit Go.Shelf
theorem useF_at {p : Pl} {run : Int} : ∀ {l : List Int} {h : Int}, l.Nodup → ∀ {i : Nat} (hi : i < l.length), useF p run h l l[i] = some (h + tSum p (l.take i), run + tAt p l[i])
  | [], _, _, i, hi => by simp at hi
  | x :: r, h, hn, 0, _ => by simp [useF, tSum]
  | x :: r, h, hn, i + 1, hi => by
    have hn' := List.nodup_cons.1 hn
    have hi' : i < r.length := by simpa using hi
    have hne : r[i] ≠ x := fun e => hn'.1 (by rw [← e]; exact List.getElem_mem hi')
    rw [List.getElem_cons_succ, useF, if_neg hne, useF_at hn'.2 hi']
    simp only [List.take_succ_cons, tSum, Int.add_assoc]
theorem tSum_take {p : Pl} {l : List Int} {k : Nat} (h : k < l.length) : tSum p (l.take (k + 1)) = tSum p (l.take k) + tAt p l[k] := by
  rw [List.take_succ_eq_append_getElem h, tSum_snoc]
def meetK (p : Pl) (a b : Tk) (s t : Int) (i k : Nat) : Bool :=
  (a.path.getD i 0 == b.path.getD k 0) && (decide (s + tSum p (a.path.take i) < t + tSum p (b.path.take k) + b.run + tAt p (a.path.getD i 0)) && decide (t + tSum p (b.path.take k) < s + tSum p (a.path.take i) + a.run + tAt p (a.path.getD i 0)))
def meetB (p : Pl) (a b : Tk) (s t : Int) : Bool := (List.range a.path.length).any fun i => (List.range b.path.length).any fun k => meetK p a b s t i k
theorem meetB_iff {p : Pl} {a b : Tk} {s t : Int} : meetB p a b s t = true ↔ ∃ i k, i < a.path.length ∧ k < b.path.length ∧ meetK p a b s t i k = true := by
  unfold meetB
  simp only [List.any_eq_true, List.mem_range]
  constructor
  · rintro ⟨i, hi, k, hk, h⟩; exact ⟨i, k, hi, hk, h⟩
  · rintro ⟨i, k, hi, hk, h⟩; exact ⟨i, hi, k, hk, h⟩
theorem getD_geI {l : List Int} {k : Nat} (h : k < l.length) : l.getD k 0 = l[k] := by rw [List.getD_eq_getElem?_getD, List.getElem?_eq_getElem h]; rfl
theorem barK_at {p : Pl} {t o : Tk} (ht : t.path.Nodup) (ho : o.path.Nodup) (so : Int) {i k : Nat} (hi : i < o.path.length) (hk : k < t.path.length) (e : o.path[i] = t.path[k]) :
    barK (useF p t.run 0 t.path) (useF p o.run 0 o.path) so o.path[i] = some ⟨so + (0 + tSum p (o.path.take i)) - (0 + tSum p (t.path.take k)) - (t.run + tAt p t.path[k]) + 1, so + (0 + tSum p (o.path.take i)) + (o.run + tAt p o.path[i]) - 1 - (0 + tSum p (t.path.take k))⟩ := by
  unfold barK
  rw [useF_at ho hi, e, useF_at ht hk]
theorem mem_bar {p : Pl} {t o : Tk} (ht : t.path.Nodup) (ho : o.path.Nodup) {so : Int} {x : Ar} (h : x ∈ barO (useF p t.run 0 t.path) (useF p o.run 0 o.path) so o.path) :
    ∃ i k, ∃ (hi : i < o.path.length) (hk : k < t.path.length), o.path[i] = t.path[k] ∧ x = ⟨so + (0 + tSum p (o.path.take i)) - (0 + tSum p (t.path.take k)) - (t.run + tAt p t.path[k]) + 1, so + (0 + tSum p (o.path.take i)) + (o.run + tAt p o.path[i]) - 1 - (0 + tSum p (t.path.take k))⟩ := by
  unfold barO at h
  obtain ⟨m, hm, hb⟩ := List.mem_filterMap.1 h
  obtain ⟨i, hi, rfl⟩ := List.mem_iff_getElem.1 hm
  have hmt : o.path[i] ∈ t.path := by
    rw [← useF_some (p := p) (run := t.run) (h := 0)]
    unfold barK at hb
    cases hq : useF p t.run 0 t.path o.path[i] with
    | none => rw [hq] at hb; cases hb
    | some a => rfl
  obtain ⟨k, hk, e⟩ := List.mem_iff_getElem.1 hmt
  rw [barK_at ht ho so hi hk e.symm] at hb
  exact ⟨i, k, hi, hk, e.symm, (Option.some.inj hb).symm⟩
theorem hit_iff {p : Pl} {t o : Tk} (ht : t.path.Nodup) (ho : o.path.Nodup) (so s : Int) : meetB p o t so s = true ↔ ∃ x ∈ barO (useF p t.run 0 t.path) (useF p o.run 0 o.path) so o.path, x.fr ≤ s ∧ s ≤ x.to := by
  rw [meetB_iff]
  constructor
  · rintro ⟨i, k, hi, hk, h⟩
    unfold meetK at h
    rw [getD_geI hi, getD_geI hk] at h
    simp only [Bool.and_eq_true, beq_iff_eq, decide_eq_true_eq] at h
    obtain ⟨e, h1, h2⟩ := h
    refine ⟨_, List.mem_filterMap.2 ⟨o.path[i], List.getElem_mem hi, barK_at ht ho so hi hk e⟩, ?_⟩
    dsimp only
    rw [← e]
    omega
  · rintro ⟨x, hx, h⟩
    obtain ⟨i, k, hi, hk, e, rfl⟩ := mem_bar ht ho hx
    refine ⟨i, k, hi, hk, ?_⟩
    unfold meetK
    rw [getD_geI hi, getD_geI hk]
    simp only [Bool.and_eq_true, beq_iff_eq, decide_eq_true_eq]
    dsimp only at h
    rw [← e] at h
    exact ⟨e, by omega, by omega⟩
def freeB (p : Pl) (ts : List Tk) (outs : List Int) (n : Nat) (s : Int) : Bool := decide (0 ≤ s) && (List.range n).all fun k => !meetB p (ts.getD k tk0) (ts.getD n tk0) (outs.getD k 0) s
theorem mem_bars {p : Pl} {ts : List Tk} {outs : List Int} {k n : Nat} {x : Ar} : x ∈ barsT p ts outs k n ↔ ∃ i, i < n ∧ x ∈ barT p ts k i (outs.getD i 0) := by
  unfold barsT
  rw [List.mem_flatMap]
  constructor
  · rintro ⟨i, hi, h⟩; exact ⟨i, List.mem_range.1 hi, h⟩
  · rintro ⟨i, hi, h⟩; exact ⟨i, List.mem_range.2 hi, h⟩
theorem free_iff {p : Pl} {ts : List Tk} (hnd : ∀ k, (ts.getD k tk0).path.Nodup) {outs : List Int} {n : Nat} {s : Int} : freeB p ts outs n s = true ↔ 0 ≤ s ∧ ∀ x ∈ barsT p ts outs n n, ¬ (x.fr ≤ s ∧ s ≤ x.to) := by
  unfold freeB
  simp only [Bool.and_eq_true, decide_eq_true_eq, List.all_eq_true, List.mem_range, Bool.not_eq_true']
  refine and_congr_right fun _ => ?_
  constructor
  · intro h x hx hh
    obtain ⟨i, hi, hx⟩ := mem_bars.1 hx
    have := (hit_iff (p := p) (hnd n) (hnd i) (outs.getD i 0) s).2 ⟨x, hx, hh⟩
    rw [h i hi] at this; cases this
  · intro h k hk
    cases hq : meetB p (ts.getD k tk0) (ts.getD n tk0) (outs.getD k 0) s with
    | false => rfl
    | true =>
      obtain ⟨x, hx, hh⟩ := (hit_iff (p := p) (hnd n) (hnd k) (outs.getD k 0) s).1 hq
      exact absurd hh (h x (mem_bars.2 ⟨k, hk, hx⟩))
def behK (p : Pl) (a b : Tk) (s : Int) (i k : Nat) : List Int := if a.path.getD i 0 = b.path.getD k 0 then [s + tSum p (a.path.take (i + 1)) + a.run - tSum p (b.path.take k)] else []
def behR (p : Pl) (a b : Tk) (s : Int) (i n : Nat) : List Int := (List.range n).flatMap (behK p a b s i)
def behL (p : Pl) (a b : Tk) (s : Int) (n : Nat) : List Int := (List.range n).flatMap fun i => behR p a b s i b.path.length
theorem flat_succ {α : Type} (f : Nat → List α) (n : Nat) : (List.range (n + 1)).flatMap f = (List.range n).flatMap f ++ f n := by
  rw [List.range_succ, List.flatMap_append]; simp
def pickF (f : Int → Bool) (b s : Int) : Int := if (f s && (decide (b < 0) || decide (s < b))) = true then s else b
theorem pick_spec {f : Int → Bool} (hf : ∀ s, f s = true → 0 ≤ s) : ∀ (l : List Int) (b : Int), (b = -1 ∨ f b = true) →
    (l.foldl (pickF f) b = -1 ∧ b = -1 ∧ ∀ s ∈ l, f s = false) ∨ (f (l.foldl (pickF f) b) = true ∧ (f b = true → l.foldl (pickF f) b ≤ b) ∧ ∀ s ∈ l, f s = true → l.foldl (pickF f) b ≤ s)
  | [], b, h => by
    rcases h with h | h
    · exact .inl ⟨h, h, by simp⟩
    · exact .inr ⟨h, fun _ => Int.le_refl _, by simp⟩
  | x :: r, b, h => by
    rw [List.foldl_cons]
    have hc : (pickF f b x = x ∧ f x = true ∧ (b < 0 ∨ x < b)) ∨ (pickF f b x = b ∧ (f x = true → 0 ≤ b ∧ b ≤ x)) := by
      unfold pickF
      by_cases hh : (f x && (decide (b < 0) || decide (x < b))) = true
      · rw [if_pos hh]
        simp only [Bool.and_eq_true, Bool.or_eq_true, decide_eq_true_eq] at hh
        exact .inl ⟨rfl, hh⟩
      · rw [if_neg hh]
        simp only [Bool.and_eq_true, Bool.or_eq_true, decide_eq_true_eq, not_and, not_or] at hh
        exact .inr ⟨rfl, fun h1 => by have := hh h1; omega⟩
    rcases hc with ⟨e, h1, h2⟩ | ⟨e, h1⟩
    · rw [e]
      have hx := hf x h1
      rcases pick_spec hf r x (.inr h1) with ⟨_, h4, _⟩ | ⟨h3, h4, h5⟩
      · omega
      · refine .inr ⟨h3, fun hb => ?_, fun s hs hfs => ?_⟩
        · have := hf b hb; have := h4 h1; omega
        · rcases List.mem_cons.1 hs with rfl | hs
          · exact h4 h1
          · exact h5 s hs hfs
    · rw [e]
      rcases pick_spec hf r b h with ⟨h3, h4, h5⟩ | ⟨h3, h4, h5⟩
      · refine .inl ⟨h3, h4, fun s hs => ?_⟩
        rcases List.mem_cons.1 hs with rfl | hs
        · cases hq : f s with
          | false => rfl
          | true => have := h1 hq; omega
        · exact h5 s hs
      · refine .inr ⟨h3, h4, fun s hs hfs => ?_⟩
        rcases List.mem_cons.1 hs with rfl | hs
        · have := h1 hfs
          rcases h with h | h
          · omega
          · exact Int.le_trans (h4 h) this.2
        · exact h5 s hs hfs
def candL (p : Pl) (ts : List Tk) (outs : List Int) (n : Nat) : Nat → List Int
  | 0 => [0]
  | c + 1 => behL p (ts.getD c tk0) (ts.getD n tk0) (outs.getD c 0) (ts.getD c tk0).path.length
def candsL (p : Pl) (ts : List Tk) (outs : List Int) (n m : Nat) : List Int := (List.range m).flatMap (candL p ts outs n)
theorem best_least {p : Pl} {ts : List Tk} (hnd : ∀ k, (ts.getD k tk0).path.Nodup) {outs : List Int} {n : Nat} {s : Int} (h : Least (barsT p ts outs n n) s) :
    (candsL p ts outs n (n + 1)).foldl (pickF (freeB p ts outs n)) (-1) = s := by
  have hfree := (free_iff (p := p) hnd (outs := outs) (n := n) (s := s)).2 ⟨h.nn, h.free⟩
  have hmem : s ∈ candsL p ts outs n (n + 1) := by
    unfold candsL
    rw [List.mem_flatMap]
    by_cases h0 : s = 0
    · exact ⟨0, by simp, by simp [candL, h0]⟩
    · obtain ⟨x, hx, h1, h2⟩ := h.low (s - 1) (by have := h.nn; omega) (by omega)
      have h3 := h.free x hx
      obtain ⟨i, hi, hx⟩ := mem_bars.1 hx
      obtain ⟨a, k, ha, hk, e, rfl⟩ := mem_bar (hnd n) (hnd i) hx
      refine ⟨i + 1, by simp; omega, ?_⟩
      unfold candL behL
      rw [List.mem_flatMap]
      refine ⟨a, List.mem_range.2 ha, ?_⟩
      unfold behR
      rw [List.mem_flatMap]
      refine ⟨k, List.mem_range.2 hk, ?_⟩
      unfold behK
      rw [getD_geI ha, getD_geI hk, if_pos e, tSum_take ha, List.mem_singleton]
      dsimp only at h1 h2 h3
      omega
  rcases pick_spec (f := freeB p ts outs n) (fun s hs => ((free_iff (p := p) hnd).1 hs).1) (candsL p ts outs n (n + 1)) (-1) (.inl rfl) with ⟨_, _, h3⟩ | ⟨h3, _, h5⟩
  · rw [h3 s hmem] at hfree; cases hfree
  · have h6 := h5 s hmem hfree
    generalize (candsL p ts outs n (n + 1)).foldl (pickF (freeB p ts outs n)) (-1) = r at *
    obtain ⟨h7, h8⟩ := (free_iff (p := p) hnd).1 h3
    by_cases e : r = s
    · exact e
    · obtain ⟨x, hx, hh⟩ := h.low r h7 (by omega)
      exact absurd hh (h8 x hx)
theorem bound_ex : ∀ xs : List Ar, ∃ M : Nat, ∀ x ∈ xs, x.to < M
  | [] => ⟨0, by simp⟩
  | x :: r => by
    obtain ⟨M, hM⟩ := bound_ex r
    refine ⟨M + (x.to.toNat + 1), fun y hy => ?_⟩
    rcases List.mem_cons.1 hy with rfl | hy
    · omega
    · have := hM y hy; omega
theorem least_ex (xs : List Ar) : ∃ s, Least xs s := by
  obtain ⟨M, hM⟩ := bound_ex xs
  obtain ⟨n, h1, h2⟩ := least_exists (fun n : Nat => ∀ x ∈ xs, ¬ (x.fr ≤ (n : Int) ∧ (n : Int) ≤ x.to)) ⟨M, fun x hx h => by have := hM x hx; omega⟩
  refine ⟨n, by omega, h1, fun t h3 h4 => ?_⟩
  obtain ⟨k, rfl⟩ : ∃ k : Nat, t = k := ⟨t.toNat, by omega⟩
  refine Classical.byContradiction fun h5 => ?_
  have := h2 k fun x hx hh => h5 ⟨x, hx, hh⟩
  omega
theorem sched_ex (p : Pl) (ts : List Tk) : ∀ n, ∃ outs : List Int, outs.length = n ∧ SchedR p ts outs
  | 0 => ⟨[], rfl, fun k hk => by simp at hk⟩
  | n + 1 => by
    obtain ⟨outs, h1, h2⟩ := sched_ex p ts n
    obtain ⟨s, hs⟩ := least_ex (barsT p ts outs outs.length outs.length)
    exact ⟨outs ++ [s], by simp [h1], h2.snoc hs⟩
def lenT (p : Pl) (ts : List Tk) (outs : List Int) : Nat → Int
  | 0 => 0
  | k + 1 => max (lenT p ts outs k) (outs.getD k 0 + (ts.getD k tk0).run + tSum p (ts.getD k tk0).path)
end Go.Proofs.YtahpdkkpnkhnhaaGreatDoor
/- Walks: Meet of the reference. -/
namespace Go.Proofs.YtahpdkkpnkhnhaaGreatDoor
open Go Go.Proofs Go.RowKit Go.Shelf
theorem Box.t3 {w : World} {b : Nat} {e : TypeId} {x y z : Value} (h : Box w b e [x, y, z]) : w.cell? ⟨b, 0, none⟩ = some x ∧ w.cell? ⟨b, 1, none⟩ = some y ∧ w.cell? ⟨b, 2, none⟩ = some z ∧ (∀ o, w.frozen? ⟨b, o, none⟩ = false) ∧ b < w.heap.size :=
  ⟨h.cell 0, h.cell 1, h.cell 2, h.frozen, h.lt⟩
theorem take_in {n : Nat} {l : List Int} (h : ∀ x ∈ l, inN n x = true) (k : Nat) : ∀ x ∈ l.take k, inN n x = true := fun x hx => h x (List.mem_of_mem_take hx)
theorem tSum_tk {p : Pl} (hp : OkP p) {l : List Int} (h : ∀ x ∈ l, inN p.ms.length x = true) (k : Nat) (hl : l.length ≤ 64) : 0 ≤ tSum p (l.take k) ∧ tSum p (l.take k) ≤ 6400000 := by
  have h1 := tSum_bd hp (take_in h k)
  have h2 : (l.take k).length ≤ 64 := by rw [List.length_take]; omega
  omega
set_option maxRecDepth 100000 in
set_option maxHeartbeats 4000000 in
theorem meet117 (w : World) (v1 v2 : Value) (ua ub : Option Addr) (ca cb : Nat) (p : Pl) (a b : Tk) (s t : Int) (hv : PlR w w.heap.size v1 v2 p) (ha : Sl encI 1 w w.heap.size (.slice ua a.path.length ca) a.path) (hb : Sl encI 1 w w.heap.size (.slice ub b.path.length cb) b.path) (hp : OkP p) (hta : OkT p a) (htb : OkT p b) (hs : 0 ≤ s ∧ s ≤ 1000000000000) (ht : 0 ≤ t ∧ t ≤ 1000000000000) :
    Calls Tryz.prog 117 #[.agg #[v1, v2], .agg #[.slice ua a.path.length ca, .string a.grain, .int .i64 a.run], .agg #[.slice ub b.path.length cb, .string b.grain, .int .i64 b.run], .int .i64 s, .int .i64 t] w (Ret (.bool (meetB p a b s t)) w) := by
  have hla := Nat.le_trans hta.len hp.le
  have hlb := Nat.le_trans htb.len hp.le
  have CA := Lib.hid (fun (w1 : World) (hb1 : Below w.heap.size w w1) (k : Nat) (hk : k ≤ a.path.length) => time23 w1 _ _ _ p (a.path.take k) (hv.later hb1) ((ha.later hb1).take k hk) (take_in hta.ins k) hp.times)
  have CB := Lib.hid (fun (w1 : World) (hb1 : Below w.heap.size w w1) (k : Nat) (hk : k ≤ b.path.length) => time23 w1 _ _ _ p (b.path.take k) (hv.later hb1) ((hb.later hb1).take k hk) (take_in htb.ins k) hp.times)
  have TA := Lib.hid (fun k => tSum_tk hp hta.ins k hla)
  have TB := Lib.hid (fun k => tSum_tk hp htb.ins k hlb)
  have IA := Lib.hid hta.ins
  have HTM := Lib.hid hp.times
  obtain ⟨hra0, hra1⟩ := hta.run
  obtain ⟨hrb0, hrb1⟩ := htb.run
  obtain ⟨hs0, hs1⟩ := hs
  obtain ⟨ht0, ht1⟩ := ht
  have HMK := Lib.hid (fun i k => show meetK p a b s t i k = ((a.path.getD i 0 == b.path.getD k 0) && (decide (s + tSum p (a.path.take i) < t + tSum p (b.path.take k) + b.run + tAt p (a.path.getD i 0)) && decide (t + tSum p (b.path.take k) < s + tSum p (a.path.take i) + a.run + tAt p (a.path.getD i 0)))) from rfl)
  obtain ⟨R, hR⟩ : ∃ R, meetB p a b s t = R := ⟨_, rfl⟩
  rw [hR]
  have HRT := Lib.hid (fun i k (h1 : i < a.path.length) (h2 : k < b.path.length) (h : meetK p a b s t i k = true) => show R = true by rw [← hR]; exact meetB_iff.2 ⟨i, k, h1, h2, h⟩)
  have HRF := Lib.hid (fun (h : ∀ i k, i < a.path.length → k < b.path.length → meetK p a b s t i k = false) => show R = false by
    cases hq : R with
    | false => rfl
    | true =>
      rw [hq] at hR
      obtain ⟨i, k, h1, h2, h3⟩ := meetB_iff.1 hR
      rw [h i k h1 h2] at h3; cases h3)
  obtain ⟨⟨a1, n1, rfl, ⟨hl1, _⟩, hA1⟩, ⟨a2, n2, rfl, _, _⟩⟩ := hv
  obtain ⟨b1, off1, rfl, hbb1, hat⟩ := hA1 hp.pos
  have HAT := Lib.hid hat
  obtain ⟨ua', ca', ea, hlca, hUA⟩ := ha
  cases ea
  obtain ⟨ub', cb', eb, hlcb, hUB⟩ := hb
  cases eb
  have HUA := Lib.hid hUA
  have HUB := Lib.hid hUB
  clear hR hta htb hat hA1 hUA hUB
  obtain ⟨W1, hW1⟩ : ∃ W, ((w.alloc (.cells #[.slice (some ⟨b1, off1, none⟩) p.ms.length n1, .slice a2 p.arcs.length n2] 25)).alloc (.cells #[.slice ua a.path.length ca, .string a.grain, .int .i64 a.run] 114)).alloc (.cells #[.slice ub b.path.length cb, .string b.grain, .int .i64 b.run] 114) = W := ⟨_, rfl⟩
  have HB := Lib.hid ((((Below.refl w.heap.size w).alloc (Nat.le_refl _) (.cells #[.slice (some ⟨b1, off1, none⟩) p.ms.length n1, .slice a2 p.arcs.length n2] 25)).alloc (by simp) (.cells #[.slice ua a.path.length ca, .string a.grain, .int .i64 a.run] 114)).alloc (by simp; omega) (.cells #[.slice ub b.path.length cb, .string b.grain, .int .i64 b.run] 114))
  have HX := Lib.hid (((Box.new w #[.slice (some ⟨b1, off1, none⟩) p.ms.length n1, .slice a2 p.arcs.length n2] 25).alloc (.cells #[.slice ua a.path.length ca, .string a.grain, .int .i64 a.run] 114)).alloc (.cells #[.slice ub b.path.length cb, .string b.grain, .int .i64 b.run] 114))
  have HY := Lib.hid ((Box.newAt (w.alloc (.cells #[.slice (some ⟨b1, off1, none⟩) p.ms.length n1, .slice a2 p.arcs.length n2] 25)) #[.slice ua a.path.length ca, .string a.grain, .int .i64 a.run] 114 (by simp : _ = w.heap.size + 1)).alloc (.cells #[.slice ub b.path.length cb, .string b.grain, .int .i64 b.run] 114))
  have HZ := Lib.hid (Box.newAt ((w.alloc (.cells #[.slice (some ⟨b1, off1, none⟩) p.ms.length n1, .slice a2 p.arcs.length n2] 25)).alloc (.cells #[.slice ua a.path.length ca, .string a.grain, .int .i64 a.run] 114)) #[.slice ub b.path.length cb, .string b.grain, .int .i64 b.run] 114 (by simp : _ = w.heap.size + 1 + 1))
  rw [hW1] at HB HX HY HZ
  have HNM := Lib.hid (show ∀ x : Nat, x < p.ms.length → tAt p x = (p.ms.getD x ⟨⟨#[]⟩, 0⟩).time from fun x hx => rfl)
  have HCM := Lib.hid (fun (x : Nat) (hx : x < p.ms.length) (w1 : World) (hb1 : Below w.heap.size w w1) => show w1.cell? ⟨b1, off1 + x * 2 + 1, none⟩ = some (.int .i64 (tAt p x)) by rw [tAt_nat hx]; exact ((HAT.out x hx).below hb1 hbb1).c2.2)
  have HTB := Lib.hid (fun (x : Nat) (hx : x < p.ms.length) => show 0 ≤ tAt p x ∧ tAt p x ≤ 100000 by rw [tAt_nat hx]; exact HTM.out _ (List.getElem_mem hx))
  clear HAT HNM HTM
  obtain ⟨n, hn⟩ : ∃ n, p.ms.length = n := ⟨_, rfl⟩
  obtain ⟨m, hm⟩ : ∃ n, p.arcs.length = n := ⟨_, rfl⟩
  obtain ⟨na, hna⟩ : ∃ n, a.path.length = n := ⟨_, rfl⟩
  obtain ⟨nb, hnb⟩ : ∃ n, b.path.length = n := ⟨_, rfl⟩
  rw [hn] at CA CB IA HX hW1 HCM HTB hl1 ⊢
  rw [hm] at CA CB HX hW1 ⊢
  have HNA := Lib.hid hna
  have HNB := Lib.hid hnb
  rw [hna] at CA HRT HRF HY hlca hla hW1 ⊢
  rw [hnb] at CB HRT HRF HZ hlcb hlb hW1 ⊢
  clear hn hm hna hnb
  generalize a.run = ra at *
  generalize b.run = rb at *
  generalize a.grain = ga at *
  generalize b.grain = gb at *
  go_enter Tryz.func117, Tryz.ntmps117
  go_wp2_with fail
  try rw [hW1]
  clear hW1
  go_loopw [11] (fun i wr => ∃ k : Nat, k ≤ na ∧ i = .int .i64 k ∧ Below W1.heap.size W1 wr ∧ ∀ i' k', i' < k → k' < nb → meetK p a b s t i' k' = false) (fun i _ => na - (intOf i).toNat)
  case atStart => exact ⟨0, by omega, rfl, Below.refl _ _, fun i' k' h => absurd h (Nat.not_lt_zero _)⟩
  case round =>
    obtain ⟨i, hi, rfl, hbe, hno⟩ := hrel
    have HBE := Lib.hid (HB.out.trans (hbe.mono HB.out.size))
    have HB1 := Lib.hid hbe
    have HX1 := Lib.hid (HX.out.later hbe)
    have HY1 := Lib.hid (HY.out.later hbe)
    have HZ1 := Lib.hid (HZ.out.later hbe)
    have HNO := Lib.hid hno
    clear hbe hno
    obtain ⟨y0, y1, y2, yf, yz⟩ := HY1.out.t3
    by_cases hlt : i < na
    rotate_left
    · obtain rfl : na = i := by omega
      have HF := Lib.hid (HRF.out HNO.out)
      go_wp2_with fail
      go_ret
      exact ⟨by rw [HF.out]; rfl, HBE.out⟩
    obtain ⟨bA, oA, rfl, hbA, hcA⟩ := HUA.out (by rw [HNA.out]; omega)
    have HAI := Lib.hid (hcA i (by rw [HNA.out]; exact hlt))
    have hxi := IA.out _ (List.getElem_mem (by rw [HNA.out]; exact hlt : i < a.path.length))
    have HGI := Lib.hid (getD_geI (l := a.path) (k := i) (by rw [HNA.out]; exact hlt))
    generalize a.path[i]'(by rw [HNA.out]; exact hlt) = xi at *
    obtain ⟨x, rfl, hxn⟩ := inN_nat hxi
    clear hxi hcA
    generalize wr = W2 at *
    go_wp2_with fail
    clear y0 y1 y2 yf yz
    go_loopw [12] (fun j wr => ∃ k : Nat, k ≤ nb ∧ j = .int .i64 k ∧ Below W2.heap.size W2 wr ∧ ∀ k', k' < k → meetK p a b s t i k' = false) (fun j _ => nb - (intOf j).toNat)
    case atStart => exact ⟨0, by omega, rfl, Below.refl _ _, fun k' h => absurd h (Nat.not_lt_zero _)⟩
    case round =>
      obtain ⟨k, hk, rfl, hbe, hnk⟩ := hrel
      have HBF := Lib.hid (HBE.out.trans (hbe.mono HBE.out.size))
      have HB2 := Lib.hid (HB1.out.trans (hbe.mono HB1.out.size))
      have HB3 := Lib.hid hbe
      have HX2 := Lib.hid (HX1.out.later hbe)
      have HY2 := Lib.hid (HY1.out.later hbe)
      have HZ2 := Lib.hid (HZ1.out.later hbe)
      have HNK := Lib.hid hnk
      clear hbe hnk
      obtain ⟨z0, z1, z2, zf, zz⟩ := HZ2.out.t3
      by_cases hltk : k < nb
      rotate_left
      · obtain rfl : nb = k := by omega
        have HNN := Lib.hid (show ∀ i' k', i' < i + 1 → k' < nb → meetK p a b s t i' k' = false from fun i' k' h1 h2 => by
          rcases Nat.lt_succ_iff_lt_or_eq.1 h1 with h | h
          · exact HNO.out i' k' h h2
          · subst h; exact HNK.out k' h2)
        go_wp2_with fail
        go_roundw
        case rel => exact ⟨i + 1, by omega, by go_num, HB2.out, HNN.out⟩
        case measure => simp [intOf]; omega
      obtain ⟨bB, oB, rfl, hbB, hcB⟩ := HUB.out (by rw [HNB.out]; omega)
      have c2 := ((hcB k (by rw [HNB.out]; exact hltk)).below HBF.out hbB).c1
      have c1 := (HAI.out.below HBF.out hbA).c1
      have HGK := Lib.hid (getD_geI (l := b.path) (k := k) (by rw [HNB.out]; exact hltk))
      rw [Nat.mul_one] at c1 c2
      generalize b.path[k]'(by rw [HNB.out]; exact hltk) = yk at *
      have hbAz : bA < wr.heap.size := Nat.lt_of_lt_of_le hbA HBF.out.size
      have hbBz : bB < wr.heap.size := Nat.lt_of_lt_of_le hbB HBF.out.size
      obtain ⟨y0, y1, y2, yf, yz⟩ := HY2.out.t3
      have HMI := Lib.hid (HMK.out i k)
      rw [HGI.out, HGK.out] at HMI
      have HNE := Lib.hid (show meetK p a b s t i k = false → ∀ k', k' < k + 1 → meetK p a b s t i k' = false from fun h k' h1 => by
        rcases Nat.lt_succ_iff_lt_or_eq.1 h1 with h2 | h2
        · exact HNK.out k' h2
        · subst h2; exact h)
      clear hcB
      cases hq : ((x : Int) == yk) with
      | false =>
        have hq' : ((x : Int) != yk) = true := by rw [bne, hq]; rfl
        rw [hq, Bool.false_and] at HMI
        go_wp2_with fail
        go_quiet (fail)
        go_wp2_with fail
        go_roundw
        case rel => exact ⟨k + 1, by omega, by go_num, below_drewN HB3.out _, HNE.out HMI.out⟩
        case measure => simp [intOf]; omega
      | true =>
        have hq' : ((x : Int) != yk) = false := by rw [bne, hq]; rfl
        rw [hq, Bool.true_and] at HMI
        obtain ⟨ht20, ht21⟩ := HTB.out x hxn
        have t0 := HCM.out x hxn wr HBF.out
        have hb1z : b1 < wr.heap.size := Nat.lt_of_lt_of_le hbb1 HBF.out.size
        obtain ⟨x0, x1, xf, xz⟩ := HX2.out.v2
        generalize tAt p (x : Int) = tm at *
        obtain ⟨hsa0, hsa1⟩ := TA.out i
        obtain ⟨hsb0, hsb1⟩ := TB.out k
        have KA := Lib.hid (fun w1 hb1 => CA.out w1 hb1 i (by omega))
        have KB := Lib.hid (fun w1 hb1 => CB.out w1 hb1 k (by omega))
        generalize tSum p (a.path.take i) = sa at *
        generalize tSum p (b.path.take k) = sb at *
        have hxn' : (x : Int) < (n : Int) := by omega
        have k1 : IntKind.i64.wrap (s + sa) = s + sa := IntWalk.i64_in _ (by omega)
        have k2 : IntKind.i64.wrap (t + sb) = t + sb := IntWalk.i64_in _ (by omega)
        have k3 : IntKind.i64.wrap (t + sb + rb) = t + sb + rb := IntWalk.i64_in _ (by omega)
        have k4 : IntKind.i64.wrap (t + sb + rb + tm) = t + sb + rb + tm := IntWalk.i64_in _ (by omega)
        have k5 : IntKind.i64.wrap (s + sa + ra) = s + sa + ra := IntWalk.i64_in _ (by omega)
        have k6 : IntKind.i64.wrap (s + sa + ra + tm) = s + sa + ra + tm := IntWalk.i64_in _ (by omega)
        go_wp2_with fail
        go_quiet (fail)
        go_wp2_with fail
        go_quiet (fail)
        go_wp2_with fail
        have HKA := Lib.hid (fun (W : World) (hW : Below w.heap.size w W) (X : Later W) => KA.out X.w (hW.trans (X.h.mono hW.size)))
        have HKB := Lib.hid (fun (W : World) (hW : Below w.heap.size w W) (X : Later W) => KB.out X.w (hW.trans (X.h.mono hW.size)))
        refine wp_region_later (by kernel_rfl) (by kernel_rfl) ?_
        repeat go_big_quiet_step (fail)
        go_big_quiet_step ((go_at_call 23; exact Calls.later (HKA.out _ (below_drewN (below_drewN HBF.out _) _) _)))
        repeat go_big_quiet_step (fail)
        go_big_quiet_step ((go_at_call 23; exact Calls.later (HKB.out _ (below_drewN (below_drewN HBF.out _) _) _)))
        repeat go_big_quiet_step (fail)
        refine wpQuiet_nil ?_
        rintro w4 ⟨⟨_, hb4⟩, rfl⟩
        have HB4 := Lib.hid ((below_drewN (below_drewN HB2.out _) _).trans (hb4.mono (below_drewN (below_drewN HB2.out _) _).size))
        have HB5 := Lib.hid ((below_drewN (below_drewN HB3.out _) _).trans (hb4.mono (below_drewN (below_drewN HB3.out _) _).size))
        have HY4 := Lib.hid ((HY2.out.later (below_drewN (below_drewN (Below.refl _ _) _) _)).later hb4)
        have HZ4 := Lib.hid ((HZ2.out.later (below_drewN (below_drewN (Below.refl _ _) _) _)).later hb4)
        clear y0 y1 y2 yf yz z0 z1 z2 zf zz c1 c2 t0 hb1z hbAz hbBz x0 x1 xf xz HKA HKB hb4
        obtain ⟨y0, y1, y2, yf, yz⟩ := HY4.out.t3
        obtain ⟨z0, z1, z2, zf, zz⟩ := HZ4.out.t3
        cases hq1 : decide (s + sa < t + sb + rb + tm) with
        | false =>
          rw [hq1, Bool.false_and] at HMI
          go_wp2_with fail
          go_roundw
          case rel => exact ⟨k + 1, by omega, by go_num, HB5.out, HNE.out HMI.out⟩
          case measure => simp [intOf]; omega
        | true =>
          rw [hq1, Bool.true_and] at HMI
          cases hq2 : decide (t + sb < s + sa + ra + tm) with
          | false =>
            rw [hq2] at HMI
            go_wp2_with fail
            go_roundw
            case rel => exact ⟨k + 1, by omega, by go_num, HB5.out, HNE.out HMI.out⟩
            case measure => simp [intOf]; omega
          | true =>
            rw [hq2] at HMI
            have HF := Lib.hid (HRT.out i k hlt hltk HMI.out)
            go_wp2_with fail
            go_ret
            exact ⟨by rw [HF.out]; rfl, HB.out.trans (HB4.out.mono HB.out.size)⟩
end Go.Proofs.YtahpdkkpnkhnhaaGreatDoor
/- Walks: behind of the reference. -/
namespace Go.Proofs.YtahpdkkpnkhnhaaGreatDoor
open Go Go.Proofs Go.RowKit Go.Shelf
theorem behR_succ (p : Pl) (a b : Tk) (s : Int) (i k : Nat) : behR p a b s i (k + 1) = behR p a b s i k ++ behK p a b s i k := flat_succ _ _
theorem behL_succ (p : Pl) (a b : Tk) (s : Int) (k : Nat) : behL p a b s (k + 1) = behL p a b s k ++ behR p a b s k b.path.length := flat_succ _ _
theorem behK_len (p : Pl) (a b : Tk) (s : Int) (i k : Nat) : (behK p a b s i k).length ≤ 1 := by unfold behK; split <;> simp
theorem behR_len (p : Pl) (a b : Tk) (s : Int) (i : Nat) : ∀ k, (behR p a b s i k).length ≤ k
  | 0 => by simp [behR]
  | k + 1 => by
    rw [behR_succ, List.length_append]
    have := behR_len p a b s i k
    have := behK_len p a b s i k
    omega
theorem behL_len (p : Pl) (a b : Tk) (s : Int) : ∀ k, (behL p a b s k).length ≤ k * b.path.length
  | 0 => by simp [behL]
  | k + 1 => by
    rw [behL_succ, List.length_append, Nat.succ_mul]
    have := behL_len p a b s k
    have := behR_len p a b s k b.path.length
    omega
def BehPost (w : World) (l : List Int) (e : Ending) (w' : World) : Prop := ∃ v, e = .returned v ∧ Own encI 1 3 w' w.heap.size v l ∧ Below w.heap.size w w'
set_option maxRecDepth 100000 in
set_option maxHeartbeats 4000000 in
theorem behind116 (w : World) (v1 v2 : Value) (ua ub : Option Addr) (ca cb : Nat) (p : Pl) (a b : Tk) (s : Int) (hv : PlR w w.heap.size v1 v2 p) (ha : Sl encI 1 w w.heap.size (.slice ua a.path.length ca) a.path) (hb : Sl encI 1 w w.heap.size (.slice ub b.path.length cb) b.path) (hp : OkP p) (hta : OkT p a) (htb : OkT p b) (hs : 0 ≤ s ∧ s ≤ 1000000000000) :
    Calls Tryz.prog 116 #[.agg #[v1, v2], .agg #[.slice ua a.path.length ca, .string a.grain, .int .i64 a.run], .agg #[.slice ub b.path.length cb, .string b.grain, .int .i64 b.run], .int .i64 s] w (BehPost w (behL p a b s a.path.length)) := by
  have HLL := Lib.hid (behL_len p a b s)
  have HLR := Lib.hid (behR_len p a b s)
  have HLS := Lib.hid (behL_succ p a b s)
  have HRS := Lib.hid (behR_succ p a b s)
  have HBK := Lib.hid (fun i k => show behK p a b s i k = if a.path.getD i 0 = b.path.getD k 0 then [s + tSum p (a.path.take (i + 1)) + a.run - tSum p (b.path.take k)] else [] from rfl)
  have hla := Nat.le_trans hta.len hp.le
  have hlb := Nat.le_trans htb.len hp.le
  have CA := Lib.hid (fun (w1 : World) (hb1 : Below w.heap.size w w1) (k : Nat) (hk : k ≤ a.path.length) => time23 w1 _ _ _ p (a.path.take k) (hv.later hb1) ((ha.later hb1).take k hk) (take_in hta.ins k) hp.times)
  have CB := Lib.hid (fun (w1 : World) (hb1 : Below w.heap.size w w1) (k : Nat) (hk : k ≤ b.path.length) => time23 w1 _ _ _ p (b.path.take k) (hv.later hb1) ((hb.later hb1).take k hk) (take_in htb.ins k) hp.times)
  have TA := Lib.hid (fun k => tSum_tk hp hta.ins k hla)
  have TB := Lib.hid (fun k => tSum_tk hp htb.ins k hlb)
  have IA := Lib.hid hta.ins
  have HTM := Lib.hid hp.times
  obtain ⟨hra0, hra1⟩ := hta.run
  obtain ⟨hrb0, hrb1⟩ := htb.run
  obtain ⟨hs0, hs1⟩ := hs
  obtain ⟨Q, hQ⟩ : ∃ Q, BehPost w (behL p a b s a.path.length) = Q := ⟨_, rfl⟩
  rw [hQ]
  have HQ : Hid (∀ (v : Value) (w' : World), Own encI 1 3 w' w.heap.size v (behL p a b s a.path.length) → Below w.heap.size w w' → Q (.returned v) w') := Lib.hid (fun v w' h1 h2 => by rw [← hQ]; exact ⟨v, rfl, h1, h2⟩)
  obtain ⟨⟨a1, n1, rfl, ⟨hl1, _⟩, hA1⟩, ⟨a2, n2, rfl, _, _⟩⟩ := hv
  obtain ⟨b1, off1, rfl, hbb1, hat⟩ := hA1 hp.pos
  have HAT := Lib.hid hat
  obtain ⟨ua', ca', ea, hlca, hUA⟩ := ha
  cases ea
  obtain ⟨ub', cb', eb, hlcb, hUB⟩ := hb
  cases eb
  have HUA := Lib.hid hUA
  have HUB := Lib.hid hUB
  clear hQ hta htb hat hA1 hUA hUB
  obtain ⟨W1, hW1⟩ : ∃ W, ((w.alloc (.cells #[.slice (some ⟨b1, off1, none⟩) p.ms.length n1, .slice a2 p.arcs.length n2] 25)).alloc (.cells #[.slice ua a.path.length ca, .string a.grain, .int .i64 a.run] 114)).alloc (.cells #[.slice ub b.path.length cb, .string b.grain, .int .i64 b.run] 114) = W := ⟨_, rfl⟩
  have HB := Lib.hid ((((Below.refl w.heap.size w).alloc (Nat.le_refl _) (.cells #[.slice (some ⟨b1, off1, none⟩) p.ms.length n1, .slice a2 p.arcs.length n2] 25)).alloc (by simp) (.cells #[.slice ua a.path.length ca, .string a.grain, .int .i64 a.run] 114)).alloc (by simp; omega) (.cells #[.slice ub b.path.length cb, .string b.grain, .int .i64 b.run] 114))
  have HX := Lib.hid (((Box.new w #[.slice (some ⟨b1, off1, none⟩) p.ms.length n1, .slice a2 p.arcs.length n2] 25).alloc (.cells #[.slice ua a.path.length ca, .string a.grain, .int .i64 a.run] 114)).alloc (.cells #[.slice ub b.path.length cb, .string b.grain, .int .i64 b.run] 114))
  have HY := Lib.hid ((Box.newAt (w.alloc (.cells #[.slice (some ⟨b1, off1, none⟩) p.ms.length n1, .slice a2 p.arcs.length n2] 25)) #[.slice ua a.path.length ca, .string a.grain, .int .i64 a.run] 114 (by simp : _ = w.heap.size + 1)).alloc (.cells #[.slice ub b.path.length cb, .string b.grain, .int .i64 b.run] 114))
  have HZ := Lib.hid (Box.newAt ((w.alloc (.cells #[.slice (some ⟨b1, off1, none⟩) p.ms.length n1, .slice a2 p.arcs.length n2] 25)).alloc (.cells #[.slice ua a.path.length ca, .string a.grain, .int .i64 a.run] 114)) #[.slice ub b.path.length cb, .string b.grain, .int .i64 b.run] 114 (by simp : _ = w.heap.size + 1 + 1))
  rw [hW1] at HB HX HY HZ
  have HNM := Lib.hid (show ∀ x : Nat, x < p.ms.length → tAt p x = (p.ms.getD x ⟨⟨#[]⟩, 0⟩).time from fun x hx => rfl)
  have HCM := Lib.hid (fun (x : Nat) (hx : x < p.ms.length) (w1 : World) (hb1 : Below w.heap.size w w1) => show w1.cell? ⟨b1, off1 + x * 2 + 1, none⟩ = some (.int .i64 (tAt p x)) by rw [tAt_nat hx]; exact ((HAT.out x hx).below hb1 hbb1).c2.2)
  have HTB := Lib.hid (fun (x : Nat) (hx : x < p.ms.length) => show 0 ≤ tAt p x ∧ tAt p x ≤ 100000 by rw [tAt_nat hx]; exact HTM.out _ (List.getElem_mem hx))
  clear HAT HNM HTM
  obtain ⟨n, hn⟩ : ∃ n, p.ms.length = n := ⟨_, rfl⟩
  obtain ⟨m, hm⟩ : ∃ n, p.arcs.length = n := ⟨_, rfl⟩
  obtain ⟨na, hna⟩ : ∃ n, a.path.length = n := ⟨_, rfl⟩
  obtain ⟨nb, hnb⟩ : ∃ n, b.path.length = n := ⟨_, rfl⟩
  rw [hn] at CA CB IA HX hW1 HCM HTB hl1 ⊢
  rw [hm] at CA CB HX hW1 ⊢
  have HNA := Lib.hid hna
  have HNB := Lib.hid hnb
  rw [hna] at CA HQ HY hlca hla hW1 ⊢
  rw [hnb] at CB HLL HLS HZ hlcb hlb hW1 ⊢
  clear hn hm hna hnb
  generalize a.run = ra at *
  generalize b.run = rb at *
  generalize a.grain = ga at *
  generalize b.grain = gb at *
  go_enter Tryz.func116, Tryz.ntmps116
  go_wp2_with fail
  try rw [hW1]
  clear hW1
  have HT : Hid (Tryz.prog.underlying 26 = some (.slice 3)) := Lib.hid Tryz.underlying26
  have HI := Lib.hid infoI
  go_loopw [9, 10] (fun v i wr => ∃ k : Nat, k ≤ na ∧ i = .int .i64 k ∧ Below W1.heap.size W1 wr ∧ Own encI 1 3 wr W1.heap.size v (behL p a b s k)) (fun _ i _ => na - (intOf i).toNat)
  case atStart => exact ⟨0, by omega, rfl, Below.refl _ _, Own.nil _ _ _ _ _⟩
  case round =>
    obtain ⟨i, hi, rfl, hbe, hown⟩ := hrel
    have HBE := Lib.hid (HB.out.trans (hbe.mono HB.out.size))
    have HB1 := Lib.hid hbe
    have HX1 := Lib.hid (HX.out.later hbe)
    have HY1 := Lib.hid (HY.out.later hbe)
    have HZ1 := Lib.hid (HZ.out.later hbe)
    have HOV := Lib.hid hown
    clear hbe hown
    obtain ⟨y0, y1, y2, yf, yz⟩ := HY1.out.t3
    by_cases hlt : i < na
    rotate_left
    · obtain rfl : na = i := by omega
      go_wp2_with fail
      exact HQ.out _ _ (HOV.out.lower HB.out.size) HBE.out
    obtain ⟨bA, oA, rfl, hbA, hcA⟩ := HUA.out (by rw [HNA.out]; omega)
    have HAI := Lib.hid (hcA i (by rw [HNA.out]; exact hlt))
    have hxi := IA.out _ (List.getElem_mem (by rw [HNA.out]; exact hlt : i < a.path.length))
    have HGI := Lib.hid (getD_geI (l := a.path) (k := i) (by rw [HNA.out]; exact hlt))
    generalize a.path[i]'(by rw [HNA.out]; exact hlt) = xi at *
    obtain ⟨x, rfl, hxn⟩ := inN_nat hxi
    clear hxi hcA
    have HLI := Lib.hid (show (behL p a b s i).length ≤ 64 * 64 from Nat.le_trans (HLL.out i) (Nat.mul_le_mul (by omega) (by omega)))
    obtain ⟨LI, hLI⟩ : ∃ L, behL p a b s i = L := ⟨_, rfl⟩
    have HLN := Lib.hid (HLS.out i)
    rw [hLI] at HLI HOV HLN
    clear hLI
    generalize wr = W2 at *
    go_wp2_with fail
    clear y0 y1 y2 yf yz
    go_loopw [9, 11] (fun v j wr => ∃ k : Nat, k ≤ nb ∧ j = .int .i64 k ∧ Below W1.heap.size W1 wr ∧ Box wr w.heap.size 25 [.slice (some ⟨b1, off1, none⟩) n n1, .slice a2 m n2] ∧ Box wr (w.heap.size + 1) 114 [.slice (some ⟨bA, oA, none⟩) na ca, .string ga, .int .i64 ra] ∧ Box wr (w.heap.size + 1 + 1) 114 [.slice ub nb cb, .string gb, .int .i64 rb] ∧ Own encI 1 3 wr W1.heap.size v (LI ++ behR p a b s i k)) (fun _ j _ => nb - (intOf j).toNat)
    case atStart => exact ⟨0, by omega, rfl, HB1.out, HX1.out, HY1.out, HZ1.out, by show Own _ _ _ _ _ _ (LI ++ []); rw [List.append_nil]; exact HOV.out⟩
    case round =>
      clear HOV HX1 HY1 HZ1 HB1 HBE
      obtain ⟨k, hk, rfl, hbe, hx2, hy2, hz2, hown⟩ := hrel
      have HB2 := Lib.hid hbe
      have HBF := Lib.hid (HB.out.trans (hbe.mono HB.out.size))
      have HX2 := Lib.hid hx2
      have HY2 := Lib.hid hy2
      have HZ2 := Lib.hid hz2
      have HOV := Lib.hid hown
      clear hbe hx2 hy2 hz2 hown
      obtain ⟨z0, z1, z2, zf, zz⟩ := HZ2.out.t3
      by_cases hltk : k < nb
      rotate_left
      · obtain rfl : nb = k := by omega
        go_wp2_with fail
        go_roundw
        case rel => exact ⟨i + 1, by omega, by go_num, HB2.out, by rw [HLN.out]; exact HOV.out⟩
        case measure => simp [intOf]; omega
      obtain ⟨bB, oB, rfl, hbB, hcB⟩ := HUB.out (by rw [HNB.out]; omega)
      have c2 := ((hcB k (by rw [HNB.out]; exact hltk)).below HBF.out hbB).c1
      have c1 := (HAI.out.below HBF.out hbA).c1
      have HGK := Lib.hid (getD_geI (l := b.path) (k := k) (by rw [HNB.out]; exact hltk))
      rw [Nat.mul_one] at c1 c2
      generalize b.path[k]'(by rw [HNB.out]; exact hltk) = yk at *
      have hbAz : bA < wr.heap.size := Nat.lt_of_lt_of_le hbA HBF.out.size
      have hbBz : bB < wr.heap.size := Nat.lt_of_lt_of_le hbB HBF.out.size
      obtain ⟨y0, y1, y2, yf, yz⟩ := HY2.out.t3
      have HRN := Lib.hid (HRS.out i k)
      rw [HBK.out, HGI.out, HGK.out] at HRN
      clear hcB
      cases hq : ((x : Int) == yk) with
      | false =>
        have HRN2 := Lib.hid (show behR p a b s i (k + 1) = behR p a b s i k by rw [HRN.out, if_neg (by simpa using hq), List.append_nil])
        go_wp2_with fail
        go_quiet (fail)
        go_wp2_with fail
        go_roundw
        case rel => exact ⟨k + 1, by omega, by go_num, below_drewN HB2.out _, HX2.out.later (below_drewN (Below.refl _ _) _), HY2.out.later (below_drewN (Below.refl _ _) _), HZ2.out.later (below_drewN (Below.refl _ _) _), by rw [HRN2.out]; exact HOV.out.drewN _⟩
        case measure => simp [intOf]; omega
      | true =>
        have HRN2 := Lib.hid (show LI ++ behR p a b s i (k + 1) = (LI ++ behR p a b s i k) ++ [s + tSum p (a.path.take (i + 1)) + ra - tSum p (b.path.take k)] by rw [HRN.out, if_pos (by simpa using hq), List.append_assoc])
        obtain ⟨x0, x1, xf, xz⟩ := HX2.out.v2
        obtain ⟨hsa0, hsa1⟩ := TA.out (i + 1)
        obtain ⟨hsb0, hsb1⟩ := TB.out k
        have KA := Lib.hid (fun w1 hb1 => CA.out w1 hb1 (i + 1) (by omega))
        have KB := Lib.hid (fun w1 hb1 => CB.out w1 hb1 k (by omega))
        generalize tSum p (a.path.take (i + 1)) = sa at *
        generalize tSum p (b.path.take k) = sb at *
        have HLK := Lib.hid (show (LI ++ behR p a b s i k).length ≤ 1000000 by rw [List.length_append]; have := HLI.out; have := HLR.out i k; omega)
        generalize LI ++ behR p a b s i k = LK at *
        have k0 : IntKind.i64.wrap ((i : Int) + 1) = ((i + 1 : Nat) : Int) := by rw [IntWalk.i64_in _ (by omega)]; omega
        have k1 : IntKind.i64.wrap (s + sa) = s + sa := IntWalk.i64_in _ (by omega)
        have k2 : IntKind.i64.wrap (s + sa + ra) = s + sa + ra := IntWalk.i64_in _ (by omega)
        have k3 : IntKind.i64.wrap (s + sa + ra - sb) = s + sa + ra - sb := IntWalk.i64_in _ (by omega)
        have k4 : ((i + 1 : Nat) : Int) ≤ (na : Int) := by omega
        have hx2' : bA < wr.heap.size := hbAz
        go_wp2_with fail
        refine wp_region_later (by kernel_rfl) (by kernel_rfl) ?_
        repeat go_big_quiet_step (fail)
        refine wpQuiet_nil ?_
        rintro w3 ⟨⟨_, hb3⟩, rfl⟩
        have HB3 := Lib.hid (HB2.out.trans (hb3.mono HB2.out.size))
        have HBG := Lib.hid (HBF.out.trans (hb3.mono HBF.out.size))
        have HX3 := Lib.hid (HX2.out.later hb3)
        have HY3 := Lib.hid (HY2.out.later hb3)
        have HZ3 := Lib.hid (HZ2.out.later hb3)
        have HO3 := Lib.hid (HOV.out.later hb3)
        clear hb3 x0 x1 xf xz y0 y1 y2 yf yz z0 z1 z2 zf zz c1 c2 hbAz hbBz hx2' HX2 HY2 HZ2 HB2 HBF HOV
        obtain ⟨x0, x1, xf, xz⟩ := HX3.out.v2
        obtain ⟨y0, y1, y2, yf, yz⟩ := HY3.out.t3
        obtain ⟨z0, z1, z2, zf, zz⟩ := HZ3.out.t3
        have HKA := Lib.hid (fun (Y : Later w3) (X : Later2 Y) => KA.out X.w (HBG.out.trans (X.below.mono HBG.out.size)))
        have HKB := Lib.hid (fun (Y : Later w3) (X : Later2 Y) => KB.out X.w (HBG.out.trans (X.below.mono HBG.out.size)))
        go_wp2_with fail
        refine wp_region_flow 21 20 _ 1 3 (by kernel_rfl) (by kernel_rfl) rfl ?_
        apply Exists.intro
        refine ⟨fun Y => ?_, ?_⟩
        simp only [headsOf, List.take_succ_cons, List.drop_succ_cons, List.take_zero, List.drop_zero, Nat.reduceSub, List.cons_append, List.nil_append]
        repeat go_big_quiet_step (fail)
        go_big_quiet_step ((go_at_call 23; exact Calls.later2 (HKA.out _ _)))
        repeat go_big_quiet_step (fail)
        go_big_quiet_step ((go_at_call 23; exact Calls.later2 (HKB.out _ _)))
        repeat go_big_quiet_step (fail)
        exact wpQuiet_nil rfl
        apply Exists.intro
        refine ⟨fun w => ?_, fun g w2 hb2 hg2 hc2 => ?_⟩
        go_simp
        first | rfl | (go_ints; rfl)
        have HO4 := Lib.hid (HO3.out.later hb2)
        have HX4 := Lib.hid (HX3.out.later hb2)
        have HY4 := Lib.hid (HY3.out.later hb2)
        have HZ4 := Lib.hid (HZ3.out.later hb2)
        have HB4 := Lib.hid (HB3.out.trans (hb2.mono HB3.out.size))
        obtain ⟨av, cv, hv4⟩ := HO4.out.shape
        clear x0 x1 xf xz y0 y1 y2 yf yz z0 z1 z2 zf zz HO3 HX3 HY3 HZ3 HB3 hb2
        have hbz4 := HB4.out.size
        simp only [Act.put, List.setIfInBounds_toArray, List.set_cons_succ, List.set_cons_zero, List.drop_succ_cons, List.drop_zero]
        go_wp2_with (at_builtin; refine wpList_pushB encI 1 8 26 3 _ HT.out HI.out rfl (by decide) (by decide) encI_len encI_one LK _ W1.heap.size w2 g _ _ hc2 rfl _ HO4.out hbz4 HLK.out rfl _ _ rfl rfl rfl ?_; intro v' w5 hown' hg')
        go_roundw
        case rel => exact ⟨k + 1, by omega, by go_num, grown_below HB4.out hg' hbz4 HO4.out.lt' (Nat.le_refl _), HX4.out.kept hg' (HO4.out.ne (by have := HB.out.size; have := HX.out.lt; omega)), HY4.out.kept hg' (HO4.out.ne (by have := HY.out.lt; omega)), HZ4.out.kept hg' (HO4.out.ne (by have := HZ.out.lt; omega)), by rw [HRN2.out]; exact hown'⟩
        case measure => simp [intOf]; omega
end Go.Proofs.YtahpdkkpnkhnhaaGreatDoor
