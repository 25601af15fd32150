/- Lemmas on the way to the law PathCleans (part 8): Jb -/
import Derived.Test.YtahpdkkpnkhnhaaGreatDoorLib29
import Derived.Test.YtahpdkkpnkhnhaaGreatDoorPathCleansP03
set_option linter.unusedVariables false
set_option linter.unusedSimpArgs false

/- What the rows of the laws on states need: states of whatever length, and what is asked, opened. -/
namespace Go.Proofs.YtahpdkkpnkhnhaaGreatDoor
open Go Go.Proofs Go.RowKit Go.ChangeShapes Go.WideShapes Go.ChangeAt Go.Joins Go.Deep
section
variable {H : Type} {enc : TypeId × Value → H} {W W' : World}
/-- A list of n elements, each known by its cells: of whatever length. -/
theorem sl_makeL {α : Type} (f : α → List Value) (sz : Nat) (hsz : 0 < sz) (hf : ∀ x, (f x).length = sz) {n c : Nat} {a : Addr} (hn : n ≤ 9223372036854775807) (hc : n ≤ c) (x0 : α)
    (Q : α → Prop) (hx : ∀ i, i < n → ∃ x : α, (∀ j u, (f x)[j]? = some u → W.cell? (a.add (i * sz + j)) = some u) ∧ Q x) :
    ∃ l : List α, l.length = n ∧ SlL f sz W W.heap.size (.slice (some a) n c) l ∧ ∀ x ∈ l, Q x := by
  have hch : ∃ g : Nat → α, ∀ i, i < n → (∀ j u, (f (g i))[j]? = some u → W.cell? (a.add (i * sz + j)) = some u) ∧ Q (g i) := by
    refine ⟨fun i => if h : i < n then Classical.choose (hx i h) else x0, fun i hi => ?_⟩
    simp only [dif_pos hi]
    exact Classical.choose_spec (hx i hi)
  obtain ⟨g, hg⟩ := hch
  have hl : ((List.range n).map g).length = n := by simp
  refine ⟨(List.range n).map g, hl, ⟨some a, c, by rw [hl], by rw [hl]; exact ⟨hn, hc⟩, fun h0 => ?_⟩, fun x hx => ?_⟩
  · rw [hl] at h0
    have hne : (f (g 0)) ≠ [] := by intro e; have := hf (g 0); rw [e] at this; simp at this; omega
    obtain ⟨u0, us, e0⟩ := List.exists_cons_of_ne_nil hne
    have h00 := (hg 0 h0).1 0 u0 (by rw [e0]; rfl)
    obtain ⟨b, off, spot⟩ := a
    have hs2 : spot = none := by simpa [Addr.add] using World.cell?_spot h00
    subst hs2
    refine ⟨b, off, rfl, by simpa [Addr.add] using World.block_lt_of_cell? _ _ h00, fun i hi j u hu => ?_⟩
    have := (hg i (by rw [hl] at hi; exact hi)).1 j u (by simpa using hu)
    rw [add_at] at this
    rw [Nat.add_assoc]; exact this
  · simp only [List.mem_map, List.mem_range] at hx
    obtain ⟨i, hi, rfl⟩ := hx
    exact (hg i hi).2
theorem sl_openL {α : Type} {t e : TypeId} (f : α → List Value) (sz : Nat) (ht : Tryz.prog.underlying t = some (.slice e)) (hsz : 0 < sz) (hce : Tryz.prog.cellsOf e = sz) (hf : ∀ x, (f x).length = sz) (x0 : α) (Q : α → Prop)
    (hel : ∀ {fuel : Nat} {cs : List Value} {x : DataW H × List MemPlace}, DataW.trod enc Tryz.prog W 0 (fun _ => true) true fuel e cs = some x → ∃ y : α, cs = f y ∧ Q y)
    {fuel n c : Nat} {a : Option Addr} {x : DataW H × List MemPlace} (h : DataW.trod enc Tryz.prog W 0 (fun _ => true) true fuel t [.slice a n c] = some x) :
    ∃ l, l.length = n ∧ SlL f sz W W.heap.size (.slice a n c) l ∧ ∀ y ∈ l, Q y := by
  rcases open_slice ht h with ⟨hcs, _⟩ | ⟨a', len, cap, m, k, D, Pl, hcs, _, hl, hm, hz, _, hcell⟩
  · simp at hcs
    obtain ⟨rfl, rfl, rfl⟩ := hcs
    exact ⟨[], rfl, ⟨none, 0, rfl, by simp, fun h => absurd h (by simp)⟩, by simp⟩
  · simp at hcs
    obtain ⟨rfl, rfl, rfl⟩ := hcs
    simp only [if_true] at hz
    subst hz
    rw [hce] at hcell
    refine sl_makeL f sz hsz hf (by unfold maxLen at hm; omega) hl x0 Q (fun i hi => ?_)
    obtain ⟨cs', h0, h1⟩ := hcell i (by omega)
    obtain ⟨y, rfl, hy⟩ := hel h1
    obtain ⟨_, hcl, hat⟩ := World.cells?_some h0
    refine ⟨y, fun j u hu => ?_, hy⟩
    have hj : j < sz := by have := (List.getElem?_eq_some_iff.1 hu).1; rwa [hf] at this
    rw [← Go.Deep.add_add, hat j hj, hu]
set_option maxRecDepth 100000 in
theorem sx_open {fuel : Nat} {cs : List Value} {x : DataW H × List MemPlace} (h : DataW.trod enc Tryz.prog W 0 (fun _ => true) true fuel 100 cs = some x) : ∃ m : Sx, cs = Sx.enc m ∧ m.grain.size ≤ 9223372036854775807 := by
  obtain ⟨xs, n, _, _, hl, hx, hf⟩ := DataW.trod_struct Tryz.underlying100 h
  rw [show Tryz.prog.cellsOf 100 = 3 from by kernel_rfl] at hl
  match cs, hl with
  | [c0, c1, c2], _ =>
    have f0 : DataW.trod enc Tryz.prog W 0 (fun _ => true) true n 4 (([c0, c1, c2].drop 0).take (Tryz.prog.cellsOf 4)) = xs[0]? := hf 0 _ rfl
    have f1 : DataW.trod enc Tryz.prog W 0 (fun _ => true) true n 3 (([c0, c1, c2].drop 1).take (Tryz.prog.cellsOf 3)) = xs[1]? := hf 1 _ rfl
    have f2 : DataW.trod enc Tryz.prog W 0 (fun _ => true) true n 9 (([c0, c1, c2].drop 2).take (Tryz.prog.cellsOf 9)) = xs[2]? := hf 2 _ rfl
    have hx2 : xs.length = 3 := hx
    rw [List.getElem?_eq_getElem (show 0 < xs.length by omega), show Tryz.prog.cellsOf 4 = 1 from by kernel_rfl] at f0
    rw [List.getElem?_eq_getElem (show 1 < xs.length by omega), show Tryz.prog.cellsOf 3 = 1 from by kernel_rfl] at f1
    rw [List.getElem?_eq_getElem (show 2 < xs.length by omega), show Tryz.prog.cellsOf 9 = 1 from by kernel_rfl] at f2
    obtain ⟨r, e0, _⟩ := DataW.trod_bool Tryz.underlying4 f0
    obtain ⟨a, e1, _, w1⟩ := DataW.trod_int Tryz.underlying3 f1
    obtain ⟨s, e2, _, hs⟩ := DataW.trod_string Tryz.underlying9 f2
    simp at e0 e1 e2
    subst e0 e1 e2
    exact ⟨⟨r, a, s⟩, rfl, hs⟩
/-- A state by value. -/
theorem st_open {n c : Nat} {a : Option Addr} {d : DataW H} {p : List MemPlace} (h : DataW.Trod enc Tryz.prog W 0 (fun _ => true) true 39 (.slice a n c) d p) :
    ∃ st : List Sx, SlL Sx.enc 3 W W.heap.size (.slice a n c) st ∧ SzR st := by
  obtain ⟨fuel, hf⟩ := h
  obtain ⟨l, _, h2, h3⟩ := sl_openL Sx.enc 3 Tryz.underlying39 (by omega) (by kernel_rfl) Sx.enc_len s0 _ sx_open hf
  exact ⟨l, h2, h3⟩
set_option maxRecDepth 100000 in
/-- A path and a grain by value. -/
theorem ask_open {r : Reach} {b0 : Nat} {v : Value} {d : DataW H} {p : List MemPlace} (hv : Value.okWide Tryz.prog W r b0 41 v) (h : DataW.Trod enc Tryz.prog W 0 (fun _ => true) true 41 v d p) :
    ∃ a n c g, v = .agg #[.slice a n c, .string g] ∧ n ≤ 9223372036854775807 ∧ g.size ≤ 9223372036854775807 ∧ ∃ l, n ≤ 80 → Sl encI 1 W W.heap.size (.slice a n c) l := by
  obtain ⟨v0, v1, y0, y1, n, rfl, _, _, h0, h1⟩ := open_agg2 Tryz.underlying41 (by kernel_rfl) (by kernel_rfl) hv h
  obtain ⟨a1, n1, c1, e1⟩ := slice_form Tryz.underlying26 h0
  cases e1
  obtain ⟨k1, k2⟩ := sl_ints h0
  obtain ⟨s, e2, _, hs⟩ := DataW.trod_string Tryz.underlying9 h1
  cases e2
  refine ⟨a1, n1, c1, s, rfl, k1, hs, ?_⟩
  by_cases h8 : n1 ≤ 80
  · obtain ⟨l, _, h2, _⟩ := k2 (by omega)
    exact ⟨l, fun _ => h2⟩
  · exact ⟨[], fun h => absurd h h8⟩
end
end Go.Proofs.YtahpdkkpnkhnhaaGreatDoor
