/- Lemmas on the way to the law TopChanges (part 34): Lf -/
import Derived.Test.YtflchbejjofppaaGreatDoorTopChangesP25
import Derived.Test.YtflchbejjofppaaGreatDoorTopChangesP07
set_option linter.unusedVariables false
set_option linter.unusedSimpArgs false

/- What the rows of the laws need: books opened. -/
namespace Go.Proofs.YtflchbejjofppaaGreatDoor.Nu
open Go Go.Proofs Go.RowKit Go.ChangeShapes Go.WideShapes Go.ChangeAt Go.Joins Go.Deep Go.Proofs.YtflchbejjofppaaGreatDoor
structure TkFit (t : Tk) : Prop where
  id : t.id.size ≤ 9223372036854775807
  fr : (Lit.int .i64 t.fr).wf = true
  dst : (Lit.int .i64 t.to).wf = true
  lo : (Lit.int .i64 t.m.lo).wf = true
  hi : (Lit.int .i64 t.m.hi).wf = true
section
variable {H : Type} {enc : TypeId × Value → H} {W W' : World}
set_option maxRecDepth 100000 in
theorem tk_open {sp : Nat → Bool} {held : Bool} {fuel : Nat} {cs : List Value} {x : DataW H × List MemPlace} (h : DataW.trod enc Tryz.prog W 0 sp held fuel 42 cs = some x) : ∃ t : Tk, cs = Tk.enc t ∧ TkFit t := by
  obtain ⟨xs, n, _, _, hl, hx, hf⟩ := DataW.trod_struct Tryz.underlying42 h
  rw [show Tryz.prog.cellsOf 42 = 5 from by kernel_rfl] at hl
  match cs, hl with
  | [c0, c1, c2, c3, c4], _ =>
    have f0 : DataW.trod enc Tryz.prog W 0 sp held n 9 (([c0, c1, c2, c3, c4].drop 0).take (Tryz.prog.cellsOf 9)) = xs[0]? := hf 0 _ rfl
    have f1 : DataW.trod enc Tryz.prog W 0 sp held n 3 (([c0, c1, c2, c3, c4].drop 1).take (Tryz.prog.cellsOf 3)) = xs[1]? := hf 1 _ rfl
    have f2 : DataW.trod enc Tryz.prog W 0 sp held n 3 (([c0, c1, c2, c3, c4].drop 2).take (Tryz.prog.cellsOf 3)) = xs[2]? := hf 2 _ rfl
    have f3 : DataW.trod enc Tryz.prog W 0 sp held n 34 (([c0, c1, c2, c3, c4].drop 3).take (Tryz.prog.cellsOf 34)) = xs[3]? := hf 3 _ rfl
    have hx4 : xs.length = 4 := hx
    rw [List.getElem?_eq_getElem (show 0 < xs.length by omega), show Tryz.prog.cellsOf 9 = 1 from by kernel_rfl] at f0
    rw [List.getElem?_eq_getElem (show 1 < xs.length by omega), show Tryz.prog.cellsOf 3 = 1 from by kernel_rfl] at f1
    rw [List.getElem?_eq_getElem (show 2 < xs.length by omega), show Tryz.prog.cellsOf 3 = 1 from by kernel_rfl] at f2
    rw [List.getElem?_eq_getElem (show 3 < xs.length by omega), show Tryz.prog.cellsOf 34 = 2 from by kernel_rfl] at f3
    obtain ⟨s, e0, _, hs⟩ := DataW.trod_string Tryz.underlying9 f0
    obtain ⟨a, e1, _, w1⟩ := DataW.trod_int Tryz.underlying3 f1
    obtain ⟨b, e2, _, w2⟩ := DataW.trod_int Tryz.underlying3 f2
    obtain ⟨ys, n', _, _, _, hy, hg⟩ := DataW.trod_struct Tryz.underlying34 f3
    have hy2 : ys.length = 2 := hy
    have g0 : DataW.trod enc Tryz.prog W 0 sp held n' 3 ((((([c0, c1, c2, c3, c4].drop 3).take 2)).drop 0).take (Tryz.prog.cellsOf 3)) = ys[0]? := hg 0 _ rfl
    have g1 : DataW.trod enc Tryz.prog W 0 sp held n' 3 ((((([c0, c1, c2, c3, c4].drop 3).take 2)).drop 1).take (Tryz.prog.cellsOf 3)) = ys[1]? := hg 1 _ rfl
    rw [List.getElem?_eq_getElem (show 0 < ys.length by omega), show Tryz.prog.cellsOf 3 = 1 from by kernel_rfl] at g0
    rw [List.getElem?_eq_getElem (show 1 < ys.length by omega), show Tryz.prog.cellsOf 3 = 1 from by kernel_rfl] at g1
    obtain ⟨lo, e3, _, w3⟩ := DataW.trod_int Tryz.underlying3 g0
    obtain ⟨hi, e4, _, w4⟩ := DataW.trod_int Tryz.underlying3 g1
    simp at e0 e1 e2 e3 e4
    subst e0 e1 e2 e3 e4
    exact ⟨⟨s, a, b, ⟨lo, hi⟩⟩, rfl, hs, w1, w2, w3, w4⟩
theorem sl_tickets_at {fuel n c : Nat} {a : Option Addr} {x : DataW H × List MemPlace} (hf : DataW.trod enc Tryz.prog W 0 (fun _ => true) true fuel 23 [.slice a n c] = some x) :
    n ≤ 9223372036854775807 ∧ (n ≤ 1000000000 → ∃ l, l.length = n ∧ Sl Tk.enc 5 W W.heap.size (.slice a n c) l ∧ ∀ t ∈ l, TkFit t) := by
  rcases open_slice Tryz.underlying23 hf with ⟨hcs, _⟩ | ⟨a', len, cap, m, k, D, Pl, hcs, _, hl, hm, hz, _, hcell⟩
  · simp at hcs
    obtain ⟨rfl, rfl, rfl⟩ := hcs
    exact ⟨by omega, fun _ => ⟨[], rfl, Sl.nil _ _ _ _ _ _, by simp⟩⟩
  · simp at hcs
    obtain ⟨rfl, rfl, rfl⟩ := hcs
    simp only [if_true] at hz
    subst hz
    rw [show Tryz.prog.cellsOf 42 = 5 from by kernel_rfl] at hcell
    refine ⟨by unfold maxLen at hm; omega, fun hn => ?_⟩
    have key : ∀ i, i < n → ∃ t : Tk, (∀ j u, (Tk.enc t)[j]? = some u → W.cell? (a'.add (i * 5 + j)) = some u) ∧ TkFit t := by
      intro i hi
      obtain ⟨cs', h0, h1⟩ := hcell i (by omega)
      obtain ⟨t, rfl, ht⟩ := tk_open h1
      obtain ⟨_, hcl, hat⟩ := World.cells?_some h0
      refine ⟨t, fun j u hu => ?_, ht⟩
      have hj : j < 5 := by have := (List.getElem?_eq_some_iff.1 hu).1; rwa [Tk.enc_len'] at this
      rw [← Go.Deep.add_add, hat j hj, hu]
    obtain ⟨l, e1, e2, e3⟩ := sl_make (c := _) Tk.enc 5 (by omega) Tk.enc_len' hn ⟨⟨#[]⟩, 0, 0, ⟨0, 0⟩⟩ (fun i hi => by obtain ⟨x, hx, _⟩ := key i hi; exact ⟨x, hx⟩)
    refine ⟨l, e1, e2, fun r hr => ?_⟩
    obtain ⟨i, hi, rfl⟩ := List.mem_iff_getElem.1 hr
    obtain ⟨x, hx, hw⟩ := key i (by omega)
    have e : l[i] = x := by
      have g0 := e3 i hi 0 _ rfl
      have g1 := e3 i hi 1 _ rfl
      have g2 := e3 i hi 2 _ rfl
      have g3 := e3 i hi 3 _ rfl
      have g4 := e3 i hi 4 _ rfl
      rw [hx 0 _ rfl] at g0
      rw [hx 1 _ rfl] at g1
      rw [hx 2 _ rfl] at g2
      rw [hx 3 _ rfl] at g3
      rw [hx 4 _ rfl] at g4
      generalize l[i] = y at *
      obtain ⟨y0, y1, y2, ⟨y3, y4⟩⟩ := y
      obtain ⟨x0, x1, x2, ⟨x3, x4⟩⟩ := x
      simp at g0 g1 g2 g3 g4
      rw [g0, g1, g2, g3, g4]
    rw [e]; exact hw
set_option maxRecDepth 100000 in
theorem bk_open {r : Reach} {b0 : Nat} {v : Value} {d : DataW H} {p : List MemPlace} (hv : Value.okWide Tryz.prog W r b0 25 v) (h : DataW.Trod enc Tryz.prog W 0 (fun _ => true) true 25 v d p) :
    ∃ a1 n1 c1 a2 n2 c2, v = .agg #[.slice a1 n1 c1, .slice a2 n2 c2] ∧ n1 ≤ 9223372036854775807 ∧ n2 ≤ 9223372036854775807 ∧
      (n1 ≤ 1000000000 → n2 ≤ 1000000000 → ∃ b : Bk, b.st.length = n1 ∧ b.ts.length = n2 ∧ BkR W W.heap.size (.slice a1 n1 c1) (.slice a2 n2 c2) b ∧ (∀ r ∈ b.st, (Lit.int .i64 r.lo).wf = true ∧ (Lit.int .i64 r.hi).wf = true) ∧ ∀ t ∈ b.ts, TkFit t) := by
  obtain ⟨v0, v1, y0, y1, n, rfl, _, _, h0, h1⟩ := open_agg2 Tryz.underlying25 (by kernel_rfl) (by kernel_rfl) hv h
  obtain ⟨a1, n1, c1, e1⟩ := slice_form Tryz.underlying22 h0
  obtain ⟨a2, n2, c2, e2⟩ := slice_form Tryz.underlying23 h1
  cases e1
  cases e2
  obtain ⟨k1, k2⟩ := sl_ranges_at h0
  obtain ⟨k3, k4⟩ := sl_tickets_at h1
  refine ⟨a1, n1, c1, a2, n2, c2, rfl, k1, k3, fun g1 g2 => ?_⟩
  obtain ⟨l1, f1, f2, f3⟩ := k2 g1
  obtain ⟨l2, f4, f5, f6⟩ := k4 g2
  exact ⟨⟨l1, l2⟩, f1, f4, ⟨f2, f5, fun t ht => (f6 t ht).id⟩, f3, f6⟩
end
end Go.Proofs.YtflchbejjofppaaGreatDoor.Nu
