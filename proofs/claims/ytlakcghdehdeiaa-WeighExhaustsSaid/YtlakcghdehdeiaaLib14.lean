/- Lemmas on the way to the laws (part 14): Ta Tb Tc Td -/
import Derived.Test.YtlakcghdehdeiaaLib01
import Derived.Test.YtlakcghdehdeiaaLib03
import Derived.Test.YtlakcghdehdeiaaRows
import Derived.ProofKit
import Derived.OpenShut
import Derived.ChangeStays
import Derived.Lib.SmallJoins
import Derived.Deep.SlicePairs
import Derived.Test.YtlakcghdehdeiaaLib10
import Derived.Test.YtlakcghdehdeiaaLib13
set_option linter.unusedVariables false
set_option linter.unusedSimpArgs false

/- What the rows of the laws need, whatever the law: arguments opened, and read again behind the call. -/
namespace Go.Proofs.Ytlakcghdehdeiaa
open Go Go.Proofs Go.RowKit Go.ChangeShapes Go.WideShapes Go.ChangeAt Go.Joins Go.Deep

theorem Try.own : ownKnob Try.prog.godebug = none := by kernel_rfl
theorem Try.kids : Kids Try.prog (· < Try.prog.types.size) := kids_rows (by kernel_rfl) (by kernel_rfl)
theorem Try.full : ∀ t e, t < Try.prog.types.size → Try.prog.underlying t = some (.slice e) → 0 < Try.prog.cellsOf e := slices_full_of Try.prog (by kernel_rfl)

section
variable {H : Type} {enc : TypeId × Value → H} {W W' : World}
/-- What lies in old memory reads as it read. -/
theorem stays {t : TypeId} (ht : t < Try.prog.types.size) (hb : Below W.heap.size W W') {v : Value} {d : DataW H} {p : List MemPlace} (h : DataW.Trod enc Try.prog W 0 (fun _ => true) true t v d p) (sp : Nat → Bool) (hs : ∀ q ∈ p, sp q.block = true) :
    DataW.Trod enc Try.prog W' 0 sp true t v d p := by
  obtain ⟨n, hn⟩ := h
  exact ⟨n, DataW.trod_stays Try.kids (fun a b => Try.full _ _ a b) (fun e => by cases e) ht hn (fun q hq => hb.same (DataW.trod_lt n _ _ _ hn q hq)) hs⟩
theorem allStay (hb : Below W.heap.size W W') (sp : Nat → Bool) : ∀ {ts : List TypeId} {vs : List Value} {ds : List (DataW H)} {p : List MemPlace}, (∀ t ∈ ts, t < Try.prog.types.size) → (∀ q ∈ p, sp q.block = true) →
    DataW.TrodAll enc Try.prog W 0 (fun _ => true) true ts vs ds p → DataW.TrodAll enc Try.prog W' 0 sp true ts vs ds p
  | [], [], [], _, _, _, h => h
  | _ :: _, _ :: _, _ :: _, _, ht, hs, ⟨p, q, h1, h2, e⟩ =>
    ⟨p, q, stays (ht _ (by simp)) hb h1 sp (fun x hx => hs x (by rw [e]; simp [hx])), allStay hb sp (fun t h => ht t (by simp [h])) (fun x hx => hs x (by rw [e]; simp [hx])) h2, e⟩
/-- A law's call: it returned true, and what was there is as it was. -/
theorem law_post {f : Func} {s : ChangeSpec} {args : Array Value} {ds gs : List (DataW H)} {before : List MemPlace} (hs : s.vars = []) (hr : f.resultTypes.toList = [4]) (hsz : f.resultTypes.size = 1) (hT : ∀ t ∈ f.params.toList, t < Try.prog.types.size)
    (hW : DataW.Whole enc Try.prog f.params.toList s.vars false W args.toList ds gs before) (h1 : (s.fn H ds).results = [.lit (.bool true)]) (h2 : (s.fn H ds).args = ds) (h3 : (s.fn H ds).vars = []) (hb : Below W.heap.size W W') :
    s.post enc Try.prog f false true false false W args (.bool true) W' := by
  have hlt := hW.lt
  have hW0 := hW
  obtain ⟨p, q, hA, hV, rfl, hz, hn⟩ := hW
  rw [hs] at hV
  obtain ⟨rfl, rfl⟩ := trodVars_none hV
  rw [List.append_nil] at hlt hW0
  refine ⟨ds, [], p, [], p, [], hW0, ?_, ?_, ?_, World.keptBut_mono (fun x hx => ⟨hx, .inr (.inl hx)⟩) (hb.frame (· ∈ p)), fun e => by cases e⟩
  · rw [List.append_nil, h1, hr, hsz]
    exact trodAll_mk1 (shut_bool Try.underlying4 true)
  · rw [List.append_nil, h2]
    exact allStay hb _ hT (fun x hx => by simpa using hlt x hx) hA
  · rw [List.append_nil, h3, hs]
    rfl
/-- A list of integers. -/
theorem sl_ints {n c : Nat} {a : Option Addr} {d : DataW H} {p : List MemPlace} (h : DataW.Trod enc Try.prog W 0 (fun _ => true) true 22 (.slice a n c) d p) :
    n ≤ 9223372036854775807 ∧ (n ≤ 1000000000 → ∃ l, l.length = n ∧ Sl encI 1 W W.heap.size (.slice a n c) l ∧ ∀ x ∈ l, (Lit.int .i64 x).wf = true) := by
  obtain ⟨fuel, hf⟩ := h
  rcases open_ints Try.underlying22 Try.underlying3 (by kernel_rfl) hf with ⟨hcs, _⟩ | ⟨a', len, cap, zs, hcs, _, hl, hm, hz, _, hcell, hwf⟩
  · simp [Value.cells] at hcs
    obtain ⟨rfl, rfl, rfl⟩ := hcs
    exact ⟨by omega, fun _ => ⟨[], rfl, Sl.nil _ _ _ _ _ _, by simp⟩⟩
  · simp [Value.cells] at hcs
    obtain ⟨rfl, rfl, rfl⟩ := hcs
    simp only [if_true] at hz
    refine ⟨by unfold maxLen at hm; omega, fun hn => ⟨zs.take n, by simp; omega, ?_, fun x hx => hwf x (List.mem_of_mem_take hx)⟩⟩
    have hlen : (zs.take n).length = n := by simp; omega
    refine ⟨some a', c, by rw [hlen], by omega, fun h0 => ?_⟩
    rw [hlen] at h0
    have h00 := hcell 0 (by omega)
    obtain ⟨b, off, spot⟩ := a'
    have hs2 : spot = none := by simpa [Addr.add] using World.cell?_spot h00
    subst hs2
    refine ⟨b, off, rfl, ?_, fun i hi j u hu => ?_⟩
    · exact World.block_lt_of_cell? _ _ h00
    · have hi' : i < zs.length := by simp at hi; omega
      have := hcell i hi'
      match j, hu with
      | 0, hu =>
        simp [encI] at hu
        rw [add_plain] at this
        rw [Nat.mul_one, Nat.add_zero, this, ← hu, List.getD_eq_getElem?_getD, List.getElem?_eq_getElem hi']
        simp
set_option maxRecDepth 100000 in
/-- A range by value. -/
theorem rg_open {r : Reach} {b0 : Nat} {v : Value} {d : DataW H} {p : List MemPlace} (hv : Value.okWide Try.prog W r b0 24 v) (h : DataW.Trod enc Try.prog W 0 (fun _ => true) true 24 v d p) : ∃ x : Rg, v = .agg #[.int .i64 x.lo, .int .i64 x.hi] := by
  obtain ⟨v0, v1, y0, y1, n, rfl, _, _, h0, h1⟩ := open_agg2 Try.underlying24 (by kernel_rfl) (by kernel_rfl) hv h
  obtain ⟨a, e0, _⟩ := DataW.trod_int Try.underlying3 h0
  obtain ⟨b, e1, _⟩ := DataW.trod_int Try.underlying3 h1
  cases e0
  cases e1
  exact ⟨⟨a, b⟩, rfl⟩
end
end Go.Proofs.Ytlakcghdehdeiaa

/- What the rows of the laws need: lists of ranges, of tickets, books opened. -/
namespace Go.Proofs.Ytlakcghdehdeiaa
open Go Go.Proofs Go.RowKit Go.ChangeShapes Go.WideShapes Go.ChangeAt Go.Joins Go.Deep

section
variable {H : Type} {enc : TypeId × Value → H} {W W' : World}
theorem add_at (b off i : Nat) : (⟨b, off, none⟩ : Addr).add i = ⟨b, off + i, none⟩ := add_plain _ _ _
/-- A list of n elements, each known by its cells. -/
theorem sl_make {α : Type} (f : α → List Value) (sz : Nat) (hsz : 0 < sz) (hf : ∀ x, (f x).length = sz) {n c : Nat} {a : Addr} (hn : n ≤ 1000000000) (x0 : α)
    (hx : ∀ i, i < n → ∃ x : α, ∀ j u, (f x)[j]? = some u → W.cell? (a.add (i * sz + j)) = some u) :
    ∃ l : List α, l.length = n ∧ Sl f sz W W.heap.size (.slice (some a) n c) l ∧ ∀ i (h : i < l.length) j u, (f l[i])[j]? = some u → W.cell? (a.add (i * sz + j)) = some u := by
  have hch : ∃ g : Nat → α, ∀ i, i < n → ∀ j u, (f (g i))[j]? = some u → W.cell? (a.add (i * sz + j)) = some u := by
    refine ⟨fun i => if h : i < n then Classical.choose (hx i h) else x0, fun i hi j u hu => ?_⟩
    simp only [dif_pos hi] at hu
    exact Classical.choose_spec (hx i hi) j u hu
  obtain ⟨g, hg⟩ := hch
  have hl : ((List.range n).map g).length = n := by simp
  refine ⟨(List.range n).map g, hl, ⟨some a, c, by rw [hl], by rw [hl]; exact hn, fun h0 => ?_⟩, fun i hi j u hu => ?_⟩
  · rw [hl] at h0
    have hne : (f (g 0)) ≠ [] := by intro e; have := hf (g 0); rw [e] at this; simp at this; omega
    obtain ⟨u0, us, e0⟩ := List.exists_cons_of_ne_nil hne
    have h00 := hg 0 h0 0 u0 (by rw [e0]; rfl)
    obtain ⟨b, off, spot⟩ := a
    have hs2 : spot = none := by simpa [Addr.add] using World.cell?_spot h00
    subst hs2
    refine ⟨b, off, rfl, by simpa [Addr.add] using World.block_lt_of_cell? _ _ h00, fun i hi j u hu => ?_⟩
    have := hg i (by rw [hl] at hi; exact hi) j u (by simpa using hu)
    rw [add_at] at this
    rw [Nat.add_assoc]; exact this
  · exact hg i (by rw [hl] at hi; exact hi) j u (by simpa using hu)

set_option maxRecDepth 100000 in
theorem sl_ranges_at {fuel n c : Nat} {a : Option Addr} {x : DataW H × List MemPlace} (hf : DataW.trod enc Try.prog W 0 (fun _ => true) true fuel 26 [.slice a n c] = some x) :
    n ≤ 9223372036854775807 ∧ (n ≤ 1000000000 → ∃ l, l.length = n ∧ Sl Rg.enc 2 W W.heap.size (.slice a n c) l ∧ ∀ r ∈ l, (Lit.int .i64 r.lo).wf = true ∧ (Lit.int .i64 r.hi).wf = true) := by
  rcases open_slice_pairs Try.underlying26 Try.underlying24 (by kernel_rfl) rfl rfl (by kernel_rfl) (by kernel_rfl) hf with ⟨hcs, _⟩ | ⟨a', len, cap, m, k, V0, V1, D0, D1, P0, P1, hcs, _, hl, hm, hz, _, hcell⟩
  · simp at hcs
    obtain ⟨rfl, rfl, rfl⟩ := hcs
    exact ⟨by omega, fun _ => ⟨[], rfl, Sl.nil _ _ _ _ _ _, by simp⟩⟩
  · simp at hcs
    obtain ⟨rfl, rfl, rfl⟩ := hcs
    simp only [if_true] at hz
    subst hz
    refine ⟨by unfold maxLen at hm; omega, fun hn => ?_⟩
    have key : ∀ i, i < n → ∃ x : Rg, (∀ j u, (Rg.enc x)[j]? = some u → W.cell? (a'.add (i * 2 + j)) = some u) ∧ (Lit.int .i64 x.lo).wf = true ∧ (Lit.int .i64 x.hi).wf = true := by
      intro i hi
      obtain ⟨h0, h1, h2, h3⟩ := hcell i (by omega)
      obtain ⟨x, e0, _, w0⟩ := DataW.trod_int Try.underlying3 h2
      obtain ⟨y, e1, _, w1⟩ := DataW.trod_int Try.underlying3 h3
      simp at e0 e1
      rw [e0] at h0
      rw [e1] at h1
      refine ⟨⟨x, y⟩, fun j u hu => ?_, w0, w1⟩
      match j, hu with
      | 0, hu => simp [Rg.enc] at hu; subst hu; exact h0
      | 1, hu => simp [Rg.enc] at hu; subst hu; exact h1
    obtain ⟨l, e1, e2, e3⟩ := sl_make (c := _) Rg.enc 2 (by omega) Rg.enc_len hn ⟨0, 0⟩ (fun i hi => by obtain ⟨x, hx, _⟩ := key i hi; exact ⟨x, hx⟩)
    refine ⟨l, e1, e2, fun r hr => ?_⟩
    obtain ⟨i, hi, rfl⟩ := List.mem_iff_getElem.1 hr
    obtain ⟨x, hx, hw0, hw1⟩ := key i (by omega)
    have g0 := e3 i hi 0 _ rfl
    have g1 := e3 i hi 1 _ rfl
    rw [hx 0 _ rfl] at g0
    rw [hx 1 _ rfl] at g1
    injection g0 with g0
    injection g0 with _ g0
    injection g1 with g1
    injection g1 with _ g1
    rw [← g0, ← g1]
    exact ⟨hw0, hw1⟩
theorem sl_ranges {n c : Nat} {a : Option Addr} {d : DataW H} {p : List MemPlace} (h : DataW.Trod enc Try.prog W 0 (fun _ => true) true 26 (.slice a n c) d p) :
    n ≤ 9223372036854775807 ∧ (n ≤ 1000000000 → ∃ l, l.length = n ∧ Sl Rg.enc 2 W W.heap.size (.slice a n c) l ∧ ∀ r ∈ l, (Lit.int .i64 r.lo).wf = true ∧ (Lit.int .i64 r.hi).wf = true) := by
  obtain ⟨fuel, hf⟩ := h
  exact sl_ranges_at hf
end
end Go.Proofs.Ytlakcghdehdeiaa

/- What the rows of the laws need: books opened. -/
namespace Go.Proofs.Ytlakcghdehdeiaa
open Go Go.Proofs Go.RowKit Go.ChangeShapes Go.WideShapes Go.ChangeAt Go.Joins Go.Deep

/-- Its numbers fit. -/
structure Tk.Fit (t : Tk) : Prop where
  id : t.id.size ≤ 9223372036854775807
  fr : (Lit.int .i64 t.fr).wf = true
  to : (Lit.int .i64 t.to).wf = true
  lo : (Lit.int .i64 t.m.lo).wf = true
  hi : (Lit.int .i64 t.m.hi).wf = true
section
variable {H : Type} {enc : TypeId × Value → H} {W W' : World}
set_option maxRecDepth 100000 in
theorem tk_open {sp : Nat → Bool} {held : Bool} {fuel : Nat} {cs : List Value} {x : DataW H × List MemPlace} (h : DataW.trod enc Try.prog W 0 sp held fuel 53 cs = some x) : ∃ t : Tk, cs = Tk.enc t ∧ t.Fit := by
  obtain ⟨xs, n, _, _, hl, hx, hf⟩ := DataW.trod_struct Try.underlying53 h
  rw [show Try.prog.cellsOf 53 = 5 from by kernel_rfl] at hl
  match cs, hl with
  | [c0, c1, c2, c3, c4], _ =>
    have f0 : DataW.trod enc Try.prog W 0 sp held n 9 (([c0, c1, c2, c3, c4].drop 0).take (Try.prog.cellsOf 9)) = xs[0]? := hf 0 _ rfl
    have f1 : DataW.trod enc Try.prog W 0 sp held n 3 (([c0, c1, c2, c3, c4].drop 1).take (Try.prog.cellsOf 3)) = xs[1]? := hf 1 _ rfl
    have f2 : DataW.trod enc Try.prog W 0 sp held n 3 (([c0, c1, c2, c3, c4].drop 2).take (Try.prog.cellsOf 3)) = xs[2]? := hf 2 _ rfl
    have f3 : DataW.trod enc Try.prog W 0 sp held n 24 (([c0, c1, c2, c3, c4].drop 3).take (Try.prog.cellsOf 24)) = xs[3]? := hf 3 _ rfl
    have hx4 : xs.length = 4 := hx
    rw [List.getElem?_eq_getElem (show 0 < xs.length by omega), show Try.prog.cellsOf 9 = 1 from by kernel_rfl] at f0
    rw [List.getElem?_eq_getElem (show 1 < xs.length by omega), show Try.prog.cellsOf 3 = 1 from by kernel_rfl] at f1
    rw [List.getElem?_eq_getElem (show 2 < xs.length by omega), show Try.prog.cellsOf 3 = 1 from by kernel_rfl] at f2
    rw [List.getElem?_eq_getElem (show 3 < xs.length by omega), show Try.prog.cellsOf 24 = 2 from by kernel_rfl] at f3
    obtain ⟨s, e0, _, hs⟩ := DataW.trod_string Try.underlying9 f0
    obtain ⟨a, e1, _, w1⟩ := DataW.trod_int Try.underlying3 f1
    obtain ⟨b, e2, _, w2⟩ := DataW.trod_int Try.underlying3 f2
    obtain ⟨ys, n', _, _, _, hy, hg⟩ := DataW.trod_struct Try.underlying24 f3
    have hy2 : ys.length = 2 := hy
    have g0 : DataW.trod enc Try.prog W 0 sp held n' 3 ((((([c0, c1, c2, c3, c4].drop 3).take 2)).drop 0).take (Try.prog.cellsOf 3)) = ys[0]? := hg 0 _ rfl
    have g1 : DataW.trod enc Try.prog W 0 sp held n' 3 ((((([c0, c1, c2, c3, c4].drop 3).take 2)).drop 1).take (Try.prog.cellsOf 3)) = ys[1]? := hg 1 _ rfl
    rw [List.getElem?_eq_getElem (show 0 < ys.length by omega), show Try.prog.cellsOf 3 = 1 from by kernel_rfl] at g0
    rw [List.getElem?_eq_getElem (show 1 < ys.length by omega), show Try.prog.cellsOf 3 = 1 from by kernel_rfl] at g1
    obtain ⟨lo, e3, _, w3⟩ := DataW.trod_int Try.underlying3 g0
    obtain ⟨hi, e4, _, w4⟩ := DataW.trod_int Try.underlying3 g1
    simp at e0 e1 e2 e3 e4
    subst e0 e1 e2 e3 e4
    exact ⟨⟨s, a, b, ⟨lo, hi⟩⟩, rfl, hs, w1, w2, w3, w4⟩
theorem sl_tickets_at {fuel n c : Nat} {a : Option Addr} {x : DataW H × List MemPlace} (hf : DataW.trod enc Try.prog W 0 (fun _ => true) true fuel 36 [.slice a n c] = some x) :
    n ≤ 9223372036854775807 ∧ (n ≤ 1000000000 → ∃ l, l.length = n ∧ Sl Tk.enc 5 W W.heap.size (.slice a n c) l ∧ ∀ t ∈ l, Tk.Fit t) := by
  rcases open_slice Try.underlying36 hf with ⟨hcs, _⟩ | ⟨a', len, cap, m, k, D, Pl, hcs, _, hl, hm, hz, _, hcell⟩
  · simp at hcs
    obtain ⟨rfl, rfl, rfl⟩ := hcs
    exact ⟨by omega, fun _ => ⟨[], rfl, Sl.nil _ _ _ _ _ _, by simp⟩⟩
  · simp at hcs
    obtain ⟨rfl, rfl, rfl⟩ := hcs
    simp only [if_true] at hz
    subst hz
    rw [show Try.prog.cellsOf 53 = 5 from by kernel_rfl] at hcell
    refine ⟨by unfold maxLen at hm; omega, fun hn => ?_⟩
    have key : ∀ i, i < n → ∃ t : Tk, (∀ j u, (Tk.enc t)[j]? = some u → W.cell? (a'.add (i * 5 + j)) = some u) ∧ t.Fit := by
      intro i hi
      obtain ⟨cs', h0, h1⟩ := hcell i (by omega)
      obtain ⟨t, rfl, ht⟩ := tk_open h1
      obtain ⟨_, hcl, hat⟩ := World.cells?_some h0
      refine ⟨t, fun j u hu => ?_, ht⟩
      have hj : j < 5 := by have := (List.getElem?_eq_some_iff.1 hu).1; rwa [Tk.enc_len'] at this
      rw [← Go.Deep.add_add, hat j hj, hu]
    obtain ⟨l, e1, e2, e3⟩ := sl_make (c := _) Tk.enc 5 (by omega) Tk.enc_len' hn ⟨⟨#[]⟩, 0, 0, ⟨0, 0⟩⟩ (fun i hi => by obtain ⟨x, hx, _⟩ := key i hi; exact ⟨x, hx⟩)
    refine ⟨l, e1, e2, fun r hr => ?_⟩
    obtain ⟨i, hi, rfl⟩ := List.mem_iff_getElem.1 hr
    obtain ⟨x, hx, hw⟩ := key i (by omega)
    have e : l[i] = x := by
      have g0 := e3 i hi 0 _ rfl
      have g1 := e3 i hi 1 _ rfl
      have g2 := e3 i hi 2 _ rfl
      have g3 := e3 i hi 3 _ rfl
      have g4 := e3 i hi 4 _ rfl
      rw [hx 0 _ rfl] at g0
      rw [hx 1 _ rfl] at g1
      rw [hx 2 _ rfl] at g2
      rw [hx 3 _ rfl] at g3
      rw [hx 4 _ rfl] at g4
      generalize l[i] = y at *
      obtain ⟨y0, y1, y2, ⟨y3, y4⟩⟩ := y
      obtain ⟨x0, x1, x2, ⟨x3, x4⟩⟩ := x
      simp at g0 g1 g2 g3 g4
      rw [g0, g1, g2, g3, g4]
    rw [e]; exact hw
set_option maxRecDepth 100000 in
/-- A book by value: two slices; with their lengths bounded, it reads as a book. -/
theorem bk_open {r : Reach} {b0 : Nat} {v : Value} {d : DataW H} {p : List MemPlace} (hv : Value.okWide Try.prog W r b0 38 v) (h : DataW.Trod enc Try.prog W 0 (fun _ => true) true 38 v d p) :
    ∃ a1 n1 c1 a2 n2 c2, v = .agg #[.slice a1 n1 c1, .slice a2 n2 c2] ∧ n1 ≤ 9223372036854775807 ∧ n2 ≤ 9223372036854775807 ∧
      (n1 ≤ 1000000000 → n2 ≤ 1000000000 → ∃ b : Bk, b.st.length = n1 ∧ b.ts.length = n2 ∧ BkR W W.heap.size (.slice a1 n1 c1) (.slice a2 n2 c2) b ∧ (∀ r ∈ b.st, (Lit.int .i64 r.lo).wf = true ∧ (Lit.int .i64 r.hi).wf = true) ∧ ∀ t ∈ b.ts, Tk.Fit t) := by
  obtain ⟨v0, v1, y0, y1, n, rfl, _, _, h0, h1⟩ := open_agg2 Try.underlying38 (by kernel_rfl) (by kernel_rfl) hv h
  obtain ⟨a1, n1, c1, e1⟩ := slice_form Try.underlying26 h0
  obtain ⟨a2, n2, c2, e2⟩ := slice_form Try.underlying36 h1
  cases e1
  cases e2
  obtain ⟨k1, k2⟩ := sl_ranges_at h0
  obtain ⟨k3, k4⟩ := sl_tickets_at h1
  refine ⟨a1, n1, c1, a2, n2, c2, rfl, k1, k3, fun g1 g2 => ?_⟩
  obtain ⟨l1, f1, f2, f3⟩ := k2 g1
  obtain ⟨l2, f4, f5, f6⟩ := k4 g2
  exact ⟨⟨l1, l2⟩, f1, f4, ⟨f2, f5, fun t ht => (f6 t ht).id⟩, f3, f6⟩
end
end Go.Proofs.Ytlakcghdehdeiaa

/- Books that are too big for the laws. -/
namespace Go.Proofs.Ytlakcghdehdeiaa
open Go Go.Proofs Go.RowKit

set_option maxRecDepth 100000 in
set_option maxHeartbeats 1000000 in
theorem heavy23_big (a1 a2 : Option Addr) (n1 c1 n2 c2 : Nat) (w : World) (h1 : n1 ≤ 9223372036854775807) (h2 : n2 ≤ 9223372036854775807) (hb : 40 < n1 ∨ 132 < n2) :
    Calls Try.prog 23 #[.agg #[.slice a1 n1 c1, .slice a2 n2 c2]] w (Ret (.bool true) w) := by
  have W1 : Below w.heap.size w (w.alloc (.cells #[.slice a1 n1 c1, .slice a2 n2 c2] 38)) := (Below.refl _ _).alloc (Nat.le_refl _) _
  have HW1 := Lib.hid W1
  clear W1
  have hcs : (8 < n1 ∧ n1 ≤ 32) ∨ 40 < n1 ∨ (n1 ≤ 8 ∧ 132 < n2) ∨ ((32 < n1 ∧ n1 ≤ 40) ∧ 132 < n2) := by omega
  clear hb
  go_enter Try.func23, Try.ntmps23
  rcases hcs with ⟨h3, h4⟩ | h3 | ⟨h3, h4⟩ | ⟨⟨h3, h4⟩, h5⟩
  all_goals go_wp2_with fail
  all_goals go_ret
  all_goals exact Ret.mk rfl HW1.out
end Go.Proofs.Ytlakcghdehdeiaa
