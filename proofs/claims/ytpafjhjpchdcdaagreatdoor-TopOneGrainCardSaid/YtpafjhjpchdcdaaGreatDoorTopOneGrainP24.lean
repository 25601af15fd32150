/- Lemmas on the way to the law TopOneGrain (part 24): YJa YJb YJf NShX Xw Xo YWd -/
import Derived.Test.YtpafjhjpchdcdaaGreatDoorTopOneGrainP21
import Derived.Laws.EntriesVeiled
import Derived.Test.YtpafjhjpchdcdaaGreatDoorTie
import Derived.ProofKit
import Derived.LaidMore
import Derived.OpenShut
import Derived.Stop.Joined
import Derived.ChangeStays
import Derived.Lib.SmallJoins
import Derived.Deep.SlicePairs
import Derived.Shelf.Strings.Builder1
import Derived.Shelf.Strings.Builder2
import Derived.Shelf.Strings.Trim
import Derived.Shelf.Small.Utf8
import Derived.Shelf.Small.Bits
import Derived.Shelf.Small.Strs
import Derived.Shelf.Strings.BuilderF
import Derived.Shelf.Strings.BuilderK
import Derived.Shelf.Strconv.Atoi
import Derived.Shelf.Strconv.Itoa0
import Derived.Shelf.Strconv.Itoa1
import Derived.Shelf.LaysM
import Derived.Shelf.Strconv.Itoa2
import Derived.Shelf.Strconv.Itoa3
import Derived.Shelf.Strings.Search1
import Derived.Shelf.Strings.Search2
import Derived.Shelf.Strings.Cut
import Derived.Shelf.Strings.Shaped
import Derived.Shelf.Strings.Prefix
import Derived.Shelf.Unicode.Decode
import Derived.Shelf.Strings.Runes
import Derived.Shelf.Strings.AsciiSet
import Derived.Shelf.Bits.Mul64
import Derived.Shelf.Strings.Repeat
import Derived.Shelf.Unicode.DecodeSlow
import Derived.Shelf.Unicode.DecodeAny
import Derived.Shelf.Unicode.DecodeLast
import Derived.Test.YtpafjhjpchdcdaaGreatDoorProg
import Derived.Test.YtpafjhjpchdcdaaGreatDoorTopOneGrainP23
import Derived.Test.YtpafjhjpchdcdaaGreatDoorRows
import Derived.Lay
import Derived.Test.YtpafjhjpchdcdaaGreatDoorTopOneGrainP04
set_option linter.unusedVariables false
set_option linter.unusedSimpArgs false

/- What the rows of the laws need, whatever the law: arguments opened, and read again behind the call; the laid table of words. -/
namespace Go.Proofs.YtpafjhjpchdcdaaGreatDoor
open Go Go.Proofs Go.RowKit Go.ChangeShapes Go.WideShapes Go.ChangeAt Go.Joins Go.Deep
theorem Tryz.kids : Kids Tryz.prog (· < Tryz.prog.types.size) := kids_rows (by kernel_rfl) (by kernel_rfl)
theorem Tryz.full : ∀ t e, t < Tryz.prog.types.size → Tryz.prog.underlying t = some (.slice e) → 0 < Tryz.prog.cellsOf e := slices_full_of Tryz.prog (by kernel_rfl)
section
variable {H : Type} {enc : TypeId × Value → H} {W W' : World}
theorem stays {t : TypeId} (ht : t < Tryz.prog.types.size) (hb : Below W.heap.size W W') {v : Value} {d : DataW H} {p : List MemPlace} (h : DataW.Trod enc Tryz.prog W 0 (fun _ => true) true t v d p) (sp : Nat → Bool) (hs : ∀ q ∈ p, sp q.block = true) :
    DataW.Trod enc Tryz.prog W' 0 sp true t v d p := by
  obtain ⟨n, hn⟩ := h
  exact ⟨n, DataW.trod_stays Tryz.kids (fun a b => Tryz.full _ _ a b) (fun e => by cases e) ht hn (fun q hq => hb.same (DataW.trod_lt n _ _ _ hn q hq)) hs⟩
theorem allStay (hb : Below W.heap.size W W') (sp : Nat → Bool) : ∀ {ts : List TypeId} {vs : List Value} {ds : List (DataW H)} {p : List MemPlace}, (∀ t ∈ ts, t < Tryz.prog.types.size) → (∀ q ∈ p, sp q.block = true) →
    DataW.TrodAll enc Tryz.prog W 0 (fun _ => true) true ts vs ds p → DataW.TrodAll enc Tryz.prog W' 0 sp true ts vs ds p
  | [], [], [], _, _, _, h => h
  | _ :: _, _ :: _, _ :: _, _, ht, hs, ⟨p, q, h1, h2, e⟩ =>
    ⟨p, q, stays (ht _ (by simp)) hb h1 sp (fun x hx => hs x (by rw [e]; simp [hx])), allStay hb sp (fun t h => ht t (by simp [h])) (fun x hx => hs x (by rw [e]; simp [hx])) h2, e⟩
theorem law_post {f : Func} {s : ChangeSpec} {args : Array Value} {ds gs : List (DataW H)} {before : List MemPlace} (hs : s.vars = []) (hr : f.resultTypes.toList = [4]) (hsz : f.resultTypes.size = 1) (hT : ∀ t ∈ f.params.toList, t < Tryz.prog.types.size)
    (hW : DataW.Whole enc Tryz.prog f.params.toList s.vars false W args.toList ds gs before) (h1 : (s.fn H ds).results = [.lit (.bool true)]) (h2 : (s.fn H ds).args = ds) (h3 : (s.fn H ds).vars = []) (hb : Below W.heap.size W W') :
    s.post enc Tryz.prog f false true false false W args (.bool true) W' := by
  have hlt := hW.lt
  have hW0 := hW
  obtain ⟨p, q, hA, hV, rfl, hz, hn⟩ := hW
  rw [hs] at hV
  obtain ⟨rfl, rfl⟩ := trodVars_none hV
  rw [List.append_nil] at hlt hW0
  refine ⟨ds, [], p, [], p, [], hW0, ?_, ?_, ?_, World.keptBut_mono (fun x hx => ⟨hx, .inr (.inl hx)⟩) (hb.frame (· ∈ p)), fun e => by cases e⟩
  · rw [List.append_nil, h1, hr, hsz]
    exact trodAll_mk1 (shut_bool Tryz.underlying4 true)
  · rw [List.append_nil, h2]
    exact allStay hb _ hT (fun x hx => by simpa using hlt x hx) hA
  · rw [List.append_nil, h3, hs]
    rfl
theorem add_at (b off i : Nat) : (⟨b, off, none⟩ : Addr).add i = ⟨b, off + i, none⟩ := add_plain _ _ _
theorem sl_make {α : Type} (f : α → List Value) (sz : Nat) (hsz : 0 < sz) (hf : ∀ x, (f x).length = sz) {n c : Nat} {a : Addr} (hn : n ≤ 1000000000) (hc : n ≤ c) (x0 : α)
    (Q : α → Prop) (hx : ∀ i, i < n → ∃ x : α, (∀ j u, (f x)[j]? = some u → W.cell? (a.add (i * sz + j)) = some u) ∧ Q x) :
    ∃ l : List α, l.length = n ∧ Sl f sz W W.heap.size (.slice (some a) n c) l ∧ ∀ x ∈ l, Q x := by
  have hch : ∃ g : Nat → α, ∀ i, i < n → (∀ j u, (f (g i))[j]? = some u → W.cell? (a.add (i * sz + j)) = some u) ∧ Q (g i) := by
    refine ⟨fun i => if h : i < n then Classical.choose (hx i h) else x0, fun i hi => ?_⟩
    simp only [dif_pos hi]
    exact Classical.choose_spec (hx i hi)
  obtain ⟨g, hg⟩ := hch
  have hl : ((List.range n).map g).length = n := by simp
  refine ⟨(List.range n).map g, hl, ⟨some a, c, by rw [hl], by rw [hl]; exact ⟨hn, hc⟩, fun h0 => ?_⟩, fun x hx => ?_⟩
  · rw [hl] at h0
    have hne : (f (g 0)) ≠ [] := by intro e; have := hf (g 0); rw [e] at this; simp at this; omega
    obtain ⟨u0, us, e0⟩ := List.exists_cons_of_ne_nil hne
    have h00 := (hg 0 h0).1 0 u0 (by rw [e0]; rfl)
    obtain ⟨b, off, spot⟩ := a
    have hs2 : spot = none := by simpa [Addr.add] using World.cell?_spot h00
    subst hs2
    refine ⟨b, off, rfl, by simpa [Addr.add] using World.block_lt_of_cell? _ _ h00, fun i hi j u hu => ?_⟩
    have := (hg i (by rw [hl] at hi; exact hi)).1 j u (by simpa using hu)
    rw [add_at] at this
    rw [Nat.add_assoc]; exact this
  · simp only [List.mem_map, List.mem_range] at hx
    obtain ⟨i, hi, rfl⟩ := hx
    exact (hg i hi).2
theorem sl_open {α : Type} {t e : TypeId} (f : α → List Value) (sz : Nat) (ht : Tryz.prog.underlying t = some (.slice e)) (hsz : 0 < sz) (hce : Tryz.prog.cellsOf e = sz) (hf : ∀ x, (f x).length = sz) (x0 : α) (Q : α → Prop)
    (hel : ∀ {fuel : Nat} {cs : List Value} {x : DataW H × List MemPlace}, DataW.trod enc Tryz.prog W 0 (fun _ => true) true fuel e cs = some x → ∃ y : α, cs = f y ∧ Q y)
    {fuel n c : Nat} {a : Option Addr} {x : DataW H × List MemPlace} (h : DataW.trod enc Tryz.prog W 0 (fun _ => true) true fuel t [.slice a n c] = some x) :
    n ≤ 9223372036854775807 ∧ (n ≤ 1000000000 → ∃ l, l.length = n ∧ Sl f sz W W.heap.size (.slice a n c) l ∧ ∀ y ∈ l, Q y) := by
  rcases open_slice ht h with ⟨hcs, _⟩ | ⟨a', len, cap, m, k, D, Pl, hcs, _, hl, hm, hz, _, hcell⟩
  · simp at hcs
    obtain ⟨rfl, rfl, rfl⟩ := hcs
    exact ⟨by omega, fun _ => ⟨[], rfl, Sl.nil _ _ _ _ _ _, by simp⟩⟩
  · simp at hcs
    obtain ⟨rfl, rfl, rfl⟩ := hcs
    simp only [if_true] at hz
    subst hz
    rw [hce] at hcell
    refine ⟨by unfold maxLen at hm; omega, fun hn => ?_⟩
    refine sl_make f sz hsz hf hn hl x0 Q (fun i hi => ?_)
    obtain ⟨cs', h0, h1⟩ := hcell i (by omega)
    obtain ⟨y, rfl, hy⟩ := hel h1
    obtain ⟨_, hcl, hat⟩ := World.cells?_some h0
    refine ⟨y, fun j u hu => ?_, hy⟩
    have hj : j < sz := by have := (List.getElem?_eq_some_iff.1 hu).1; rwa [hf] at this
    rw [← Go.Deep.add_add, hat j hj, hu]
theorem int_open {fuel : Nat} {cs : List Value} {x : DataW H × List MemPlace} (h : DataW.trod enc Tryz.prog W 0 (fun _ => true) true fuel 3 cs = some x) : ∃ y : Int, cs = encI y ∧ (Lit.int .i64 y).wf = true := by
  obtain ⟨k, e1, _, w⟩ := DataW.trod_int Tryz.underlying3 h
  exact ⟨k, e1, w⟩
structure Mc.Fit (m : Mc) : Prop where
  kind : m.kind.size ≤ 9223372036854775807
  time : (Lit.int .i64 m.time).wf = true
set_option maxRecDepth 100000 in
theorem mc_open {fuel : Nat} {cs : List Value} {x : DataW H × List MemPlace} (h : DataW.trod enc Tryz.prog W 0 (fun _ => true) true fuel 43 cs = some x) : ∃ m : Mc, cs = Mc.enc m ∧ m.Fit := by
  obtain ⟨xs, n, _, _, hl, hx, hf⟩ := DataW.trod_struct Tryz.underlying43 h
  rw [show Tryz.prog.cellsOf 43 = 2 from by kernel_rfl] at hl
  match cs, hl with
  | [c0, c1], _ =>
    have f0 : DataW.trod enc Tryz.prog W 0 (fun _ => true) true n 9 (([c0, c1].drop 0).take (Tryz.prog.cellsOf 9)) = xs[0]? := hf 0 _ rfl
    have f1 : DataW.trod enc Tryz.prog W 0 (fun _ => true) true n 3 (([c0, c1].drop 1).take (Tryz.prog.cellsOf 3)) = xs[1]? := hf 1 _ rfl
    have hx2 : xs.length = 2 := hx
    rw [List.getElem?_eq_getElem (show 0 < xs.length by omega), show Tryz.prog.cellsOf 9 = 1 from by kernel_rfl] at f0
    rw [List.getElem?_eq_getElem (show 1 < xs.length by omega), show Tryz.prog.cellsOf 3 = 1 from by kernel_rfl] at f1
    obtain ⟨s, e0, _, hs⟩ := DataW.trod_string Tryz.underlying9 f0
    obtain ⟨a, e1, _, w1⟩ := DataW.trod_int Tryz.underlying3 f1
    simp at e0 e1
    subst e0 e1
    exact ⟨⟨s, a⟩, rfl, hs, w1⟩
set_option maxRecDepth 100000 in
theorem ar_open {fuel : Nat} {cs : List Value} {x : DataW H × List MemPlace} (h : DataW.trod enc Tryz.prog W 0 (fun _ => true) true fuel 85 cs = some x) : ∃ r : Ar, cs = Ar.enc r ∧ True := by
  obtain ⟨xs, n, _, _, hl, hx, hf⟩ := DataW.trod_array Tryz.underlying85 h
  rw [show Tryz.prog.cellsOf 85 = 2 from by kernel_rfl] at hl
  match cs, hl with
  | [c0, c1], _ =>
    have f0 := hf 0 (by omega)
    have f1 := hf 1 (by omega)
    rw [List.getElem?_eq_getElem (show 0 < xs.length by omega), show Tryz.prog.cellsOf 3 = 1 from by kernel_rfl] at f0
    rw [List.getElem?_eq_getElem (show 1 < xs.length by omega), show Tryz.prog.cellsOf 3 = 1 from by kernel_rfl] at f1
    obtain ⟨a, e0, _, _⟩ := DataW.trod_int Tryz.underlying3 f0
    obtain ⟨b, e1, _, _⟩ := DataW.trod_int Tryz.underlying3 f1
    simp at e0 e1
    subst e0 e1
    exact ⟨⟨a, b⟩, rfl, trivial⟩
end
theorem word_open {W : World} {fuel : Nat} {c : Value} {x : DataW Unit × List MemPlace} {held : Bool} (h : DataW.trod (fun _ => ()) Tryz.prog W 0 (fun _ => true) held fuel 9 [c] = some x) {s : List UInt8} (hx : x.1 = .lit (.string s)) : c = .string ⟨s.toArray⟩ := by
  obtain ⟨b, e0, rfl, _⟩ := DataW.trod_string Tryz.underlying9 h
  simp only [DataW.lit.injEq, Lit.string.injEq] at hx
  simp only [List.cons.injEq, and_true] at e0
  subst hx e0
  rfl
end Go.Proofs.YtpafjhjpchdcdaaGreatDoor
/- What the rows of the laws on states need: states of whatever length, and what is asked, opened. -/
namespace Go.Proofs.YtpafjhjpchdcdaaGreatDoor
open Go Go.Proofs Go.RowKit Go.ChangeShapes Go.WideShapes Go.ChangeAt Go.Joins Go.Deep
def SlL {α : Type} (f : α → List Value) (sz : Nat) (w : World) (B : Nat) (v : Value) (l : List α) : Prop :=
  ∃ a c, v = .slice a l.length c ∧ (l.length ≤ 9223372036854775807 ∧ l.length ≤ c) ∧ (0 < l.length → ∃ b off, a = some ⟨b, off, none⟩ ∧ b < B ∧
    ∀ i (h : i < l.length), At w b (off + i * sz) (f l[i]))
theorem SlL.later {α : Type} {f : α → List Value} {sz : Nat} {w w' : World} {v : Value} {l : List α} (h : SlL f sz w w.heap.size v l) (hb : Below w.heap.size w w') : SlL f sz w' w'.heap.size v l := by
  obtain ⟨a, c, h1, h2, h3⟩ := h
  refine ⟨a, c, h1, h2, fun h0 => ?_⟩
  obtain ⟨b, off, h4, h5, h6⟩ := h3 h0
  exact ⟨b, off, h4, Nat.lt_of_lt_of_le h5 hb.size, fun i hi => (h6 i hi).below hb h5⟩
theorem SlL.short {α : Type} {f : α → List Value} {sz : Nat} {w : World} {B : Nat} {v : Value} {l : List α} (h : SlL f sz w B v l) (hl : l.length ≤ 1000000000) : Sl f sz w B v l := by
  obtain ⟨a, c, h1, h2, h3⟩ := h
  exact ⟨a, c, h1, ⟨hl, h2.2⟩, h3⟩
section
variable {H : Type} {enc : TypeId × Value → H} {W W' : World}
theorem sl_makeL {α : Type} (f : α → List Value) (sz : Nat) (hsz : 0 < sz) (hf : ∀ x, (f x).length = sz) {n c : Nat} {a : Addr} (hn : n ≤ 9223372036854775807) (hc : n ≤ c) (x0 : α)
    (Q : α → Prop) (hx : ∀ i, i < n → ∃ x : α, (∀ j u, (f x)[j]? = some u → W.cell? (a.add (i * sz + j)) = some u) ∧ Q x) :
    ∃ l : List α, l.length = n ∧ SlL f sz W W.heap.size (.slice (some a) n c) l ∧ ∀ x ∈ l, Q x := by
  have hch : ∃ g : Nat → α, ∀ i, i < n → (∀ j u, (f (g i))[j]? = some u → W.cell? (a.add (i * sz + j)) = some u) ∧ Q (g i) := by
    refine ⟨fun i => if h : i < n then Classical.choose (hx i h) else x0, fun i hi => ?_⟩
    simp only [dif_pos hi]
    exact Classical.choose_spec (hx i hi)
  obtain ⟨g, hg⟩ := hch
  have hl : ((List.range n).map g).length = n := by simp
  refine ⟨(List.range n).map g, hl, ⟨some a, c, by rw [hl], by rw [hl]; exact ⟨hn, hc⟩, fun h0 => ?_⟩, fun x hx => ?_⟩
  · rw [hl] at h0
    have hne : (f (g 0)) ≠ [] := by intro e; have := hf (g 0); rw [e] at this; simp at this; omega
    obtain ⟨u0, us, e0⟩ := List.exists_cons_of_ne_nil hne
    have h00 := (hg 0 h0).1 0 u0 (by rw [e0]; rfl)
    obtain ⟨b, off, spot⟩ := a
    have hs2 : spot = none := by simpa [Addr.add] using World.cell?_spot h00
    subst hs2
    refine ⟨b, off, rfl, by simpa [Addr.add] using World.block_lt_of_cell? _ _ h00, fun i hi j u hu => ?_⟩
    have := (hg i (by rw [hl] at hi; exact hi)).1 j u (by simpa using hu)
    rw [add_at] at this
    rw [Nat.add_assoc]; exact this
  · simp only [List.mem_map, List.mem_range] at hx
    obtain ⟨i, hi, rfl⟩ := hx
    exact (hg i hi).2
theorem sl_openL {α : Type} {t e : TypeId} (f : α → List Value) (sz : Nat) (ht : Tryz.prog.underlying t = some (.slice e)) (hsz : 0 < sz) (hce : Tryz.prog.cellsOf e = sz) (hf : ∀ x, (f x).length = sz) (x0 : α) (Q : α → Prop)
    (hel : ∀ {fuel : Nat} {cs : List Value} {x : DataW H × List MemPlace}, DataW.trod enc Tryz.prog W 0 (fun _ => true) true fuel e cs = some x → ∃ y : α, cs = f y ∧ Q y)
    {fuel n c : Nat} {a : Option Addr} {x : DataW H × List MemPlace} (h : DataW.trod enc Tryz.prog W 0 (fun _ => true) true fuel t [.slice a n c] = some x) :
    ∃ l, l.length = n ∧ SlL f sz W W.heap.size (.slice a n c) l ∧ ∀ y ∈ l, Q y := by
  rcases open_slice ht h with ⟨hcs, _⟩ | ⟨a', len, cap, m, k, D, Pl, hcs, _, hl, hm, hz, _, hcell⟩
  · simp at hcs
    obtain ⟨rfl, rfl, rfl⟩ := hcs
    exact ⟨[], rfl, ⟨none, 0, rfl, by simp, fun h => absurd h (by simp)⟩, by simp⟩
  · simp at hcs
    obtain ⟨rfl, rfl, rfl⟩ := hcs
    simp only [if_true] at hz
    subst hz
    rw [hce] at hcell
    refine sl_makeL f sz hsz hf (by unfold maxLen at hm; omega) hl x0 Q (fun i hi => ?_)
    obtain ⟨cs', h0, h1⟩ := hcell i (by omega)
    obtain ⟨y, rfl, hy⟩ := hel h1
    obtain ⟨_, hcl, hat⟩ := World.cells?_some h0
    refine ⟨y, fun j u hu => ?_, hy⟩
    have hj : j < sz := by have := (List.getElem?_eq_some_iff.1 hu).1; rwa [hf] at this
    rw [← Go.Deep.add_add, hat j hj, hu]
end
end Go.Proofs.YtpafjhjpchdcdaaGreatDoor
/- Opening the arguments of a law that asks no bounds: the machines of a plant without its arcs; ends of whatever length. -/
namespace Go.Proofs.YtpafjhjpchdcdaaGreatDoor
open Go Go.Proofs Go.RowKit Go.ChangeShapes Go.WideShapes Go.ChangeAt Go.Joins Go.Deep
section
variable {H : Type} {enc : TypeId × Value → H} {W : World}
theorem ints_all {n c : Nat} {a : Option Addr} {d : DataW H} {p : List MemPlace} (h : DataW.Trod enc Tryz.prog W 0 (fun _ => true) true 34 (.slice a n c) d p) :
    n ≤ 9223372036854775807 ∧ ∃ l, SlL encI 1 W W.heap.size (.slice a n c) l ∧ l.length = n := by
  obtain ⟨fuel, hf⟩ := h
  obtain ⟨l, h1, h2, _⟩ := sl_openL encI 1 Tryz.underlying34 (by omega) (by kernel_rfl) encI_len (0 : Int) _ int_open hf
  obtain ⟨_, _, _, h3, _⟩ := id h2
  exact ⟨by omega, l, h2, h1⟩
set_option maxRecDepth 100000 in
theorem pl_open2 {r : Reach} {b0 : Nat} {v : Value} {d : DataW H} {p : List MemPlace} (hv : Value.okWide Tryz.prog W r b0 25 v) (h : DataW.Trod enc Tryz.prog W 0 (fun _ => true) true 25 v d p) :
    ∃ a1 n1 c1 a2 n2 c2, v = .agg #[.slice a1 n1 c1, .slice a2 n2 c2] ∧ n1 ≤ 9223372036854775807 ∧ n2 ≤ 9223372036854775807 ∧
      ∃ b : Pl, (n1 ≤ 70 → Sl Mc.enc 2 W W.heap.size (.slice a1 n1 c1) b.ms ∧ b.ms.length = n1) ∧ (n2 ≤ 260 → Sl Ar.enc 2 W W.heap.size (.slice a2 n2 c2) b.arcs ∧ b.arcs.length = n2) := by
  obtain ⟨v0, v1, y0, y1, n, rfl, _, _, h0, h1⟩ := open_agg2 Tryz.underlying25 (by kernel_rfl) (by kernel_rfl) hv h
  obtain ⟨a1, n1, c1, e1⟩ := slice_form Tryz.underlying22 h0
  obtain ⟨a2, n2, c2, e2⟩ := slice_form Tryz.underlying23 h1
  cases e1
  cases e2
  obtain ⟨k1, k2⟩ := sl_open Mc.enc 2 Tryz.underlying22 (by omega) (by kernel_rfl) Mc.enc_len ⟨⟨#[]⟩, 0⟩ _ mc_open h0
  obtain ⟨k3, k4⟩ := sl_open Ar.enc 2 Tryz.underlying23 (by omega) (by kernel_rfl) Ar.enc_len ⟨0, 0⟩ _ ar_open h1
  refine ⟨a1, n1, c1, a2, n2, c2, rfl, k1, k3, ?_⟩
  have q1 : ∃ l : List Mc, n1 ≤ 70 → Sl Mc.enc 2 W W.heap.size (.slice a1 n1 c1) l ∧ l.length = n1 := by
    by_cases hb : n1 ≤ 70
    · obtain ⟨l1, f1, f2, _⟩ := k2 (by omega)
      exact ⟨l1, fun _ => ⟨f2, f1⟩⟩
    · exact ⟨[], fun x => absurd x hb⟩
  have q2 : ∃ l : List Ar, n2 ≤ 260 → Sl Ar.enc 2 W W.heap.size (.slice a2 n2 c2) l ∧ l.length = n2 := by
    by_cases hb : n2 ≤ 260
    · obtain ⟨l1, f1, f2, _⟩ := k4 (by omega)
      exact ⟨l1, fun _ => ⟨f2, f1⟩⟩
    · exact ⟨[], fun x => absurd x hb⟩
  obtain ⟨l1, q1⟩ := q1
  obtain ⟨l2, q2⟩ := q2
  exact ⟨⟨l1, l2⟩, q1, q2⟩
end
end Go.Proofs.YtpafjhjpchdcdaaGreatDoor
/- A laying of the shelf. -/
namespace Go.Proofs
open Go.Shelf
def Tryz.laysM145_ren : Go.Shelf.Ren := ⟨fun | 145 => 101 | 220 => 116 | 219 => 146 | 217 => 162 | 225 => 163 | 224 => 164 | 267 => 165 | 266 => 183 | 314 => 184 | n => n, fun | 9 => 9 | 4 => 4 | 59 => 148 | 3 => 3 | 5 => 5 | 46 => 161 | 146 => 223 | 51 => 189 | n => n, fun | 1 => 1 | n => n⟩
theorem Tryz.laysM145 : Go.Proofs.LaysM.n145 Tryz.prog Tryz.laysM145_ren := {
  mixed := by kernel_rfl
  f145 := Tryz.func101.trans (congrArg some (by kernel_rfl))
  f217 := Tryz.func162.trans (congrArg some (by kernel_rfl))
  f219 := Tryz.func146.trans (congrArg some (by kernel_rfl))
  f220 := Tryz.func116.trans (congrArg some (by kernel_rfl))
  f224 := Tryz.func164.trans (congrArg some (by kernel_rfl))
  f225 := Tryz.func163.trans (congrArg some (by kernel_rfl))
  f266 := Tryz.func183.trans (congrArg some (by kernel_rfl))
  f267 := Tryz.func165.trans (congrArg some (by kernel_rfl))
  f314 := Tryz.func184.trans (congrArg some (by kernel_rfl))
  t3 := Tryz.underlying3
  a3 := Tryz.isAgg3
  z3 := Tryz.sizeOf3
  v3 := Tryz.zeroValue3
  t4 := Tryz.underlying4
  a4 := Tryz.isAgg4
  z4 := Tryz.sizeOf4
  v4 := Tryz.zeroValue4
  t5 := Tryz.underlying5
  a5 := Tryz.isAgg5
  z5 := Tryz.sizeOf5
  v5 := Tryz.zeroValue5
  t9 := Tryz.underlying9
  a9 := Tryz.isAgg9
  z9 := Tryz.sizeOf9
  v9 := Tryz.zeroValue9
  t46 := Tryz.underlying161
  a46 := Tryz.isAgg161
  z46 := Tryz.sizeOf161
  v46 := Tryz.zeroValue161
  t51 := Tryz.underlying189
  a51 := Tryz.isAgg189
  z51 := Tryz.sizeOf189
  v51 := Tryz.zeroValue189
  t59 := Tryz.underlying148
  a59 := Tryz.isAgg148
  z59 := Tryz.sizeOf148
  v59 := Tryz.zeroValue148
  t146 := Tryz.underlying223
  a146 := Tryz.isAgg223
  z146 := Tryz.sizeOf223
  v146 := Tryz.zeroValue223
  g1 := by kernel_rfl
  i3 := by kernel_rfl
  i4 := by kernel_rfl
  i5 := by kernel_rfl
  i9 := by kernel_rfl
  i46 := by kernel_rfl
  i51 := by kernel_rfl
  i59 := by kernel_rfl
  i146 := by kernel_rfl
  m1 := by kernel_rfl
  s1_3 := fun w h => Go.Proofs.cell_of_shapedOpen_int (zero := #[.int .i64 0]) (t := 3) h (of_decide_eq_true (by kernel_rfl)) (by kernel_rfl) rfl (by kernel_rfl) (by kernel_rfl) Tryz.underlying3 }
end Go.Proofs
/- What the law's row needs: the laid variables; the row's wrap. -/
namespace Go.Proofs.YtpafjhjpchdcdaaGreatDoor.Nu
open Go Go.Proofs Go.RowKit Go.ChangeShapes Go.WideShapes Go.ChangeAt Go.Joins Go.Deep Go.Proofs.YtpafjhjpchdcdaaGreatDoor
theorem ownTop : ownKnob Tryz.prog.godebug = none := by kernel_rfl
theorem gWords : Tryz.prog.globalNamed "bushel/path.words" = some 0 := by kernel_rfl
theorem tWords : (Tryz.prog.globals[0]?).map (·.type) = some 107 := by kernel_rfl
def laidT : List (String × DataW Unit) := [("math/bits.deBruijn32tab", Rows.laid_math_bits_deBruijn32tab), ("math/bits.deBruijn64tab", Rows.laid_math_bits_deBruijn64tab), ("internal/strconv.uint64pow10", Rows.laid_internal_strconv_uint64pow10), ("unicode/utf8.acceptRanges", Rows.laid_unicode_utf8_acceptRanges), ("strconv.ErrRange", Rows.laid_strconv_ErrRange), ("strconv.ErrSyntax", Rows.laid_strconv_ErrSyntax), ("bushel/path.words", Rows.laid_bushel_path_words), ("unicode/utf8.first", Rows.laid_unicode_utf8_first)]
theorem door_met (os : Os) (args : Array Value) : laidMetH Tryz.prog laidT ((World.laidAll Tryz.prog os laidT).forCall (fun _ _ => 0) ⟨#[], args, []⟩).memory := by
  rw [MakeChecks.laidMetH_plain _ _ _ (by kernel_rfl)]
  exact laidMet_laidAll _ (by kernel_rfl) (by kernel_rfl)
theorem door_shaped (os : Os) (args : Array Value) : ((World.laidAll Tryz.prog os laidT).forCall (fun _ _ => 0) ⟨#[], args, []⟩).Shaped Tryz.prog :=
  World.shaped_of_ZipB (by kernel_rfl) (by kernel_rfl)
theorem laidMet_tail {P : Program} {x : String × DataW Unit} {r : List (String × DataW Unit)} {w : World} (h : laidMet P (x :: r) w) : laidMet P r w := by
  obtain ⟨ps, ⟨g, t, cs, fuel, p, q, hg, ht, hv, hd, hr, rfl⟩, hn, hc⟩ := h
  exact ⟨q, hr, (List.nodup_append.1 hn).2.1, fun b off hm => hc b off (List.mem_append_right _ hm)⟩
set_option maxRecDepth 100000 in
theorem tabs_of_laid {W : World} (h : laidMetH Tryz.prog laidT W) (hs : W.ShapedOpen Tryz.prog) : TbR W := by
  rw [MakeChecks.laidMetH_plain _ _ _ (by kernel_rfl)] at h
  have h2 := laidMet_tail (laidMet_tail h)
  exact ⟨Lib.tabIs_of_head (g := 8) (t := 253) (e := 175) (n := 20) (by kernel_rfl) (by kernel_rfl) (by kernel_rfl) (by kernel_rfl) (by kernel_rfl) (by kernel_rfl) h2, Tryz.laysM145.s1_3 W hs⟩
set_option maxRecDepth 100000 in
theorem words_of_laid {W : World} (h : laidMetH Tryz.prog laidT W) : WdR W := by
  rw [MakeChecks.laidMetH_plain _ _ _ (by kernel_rfl)] at h
  have h7 := laidMet_tail (laidMet_tail (laidMet_tail (laidMet_tail (laidMet_tail (laidMet_tail h)))))
  obtain ⟨ps, ⟨g0, t0, cs0, f0, p0, q0, hg0, ht0, hv0, hd0, _⟩, _, _⟩ := h7
  obtain rfl := Option.some.inj (gWords.symm.trans hg0)
  obtain rfl := Option.some.inj (tWords.symm.trans ht0)
  obtain ⟨xs, m1, rfl, hx1, hlen, hn3, hel⟩ := DataW.trod_array Tryz.underlying107 hd0
  rw [show Tryz.prog.cellsOf 107 = 8 from by kernel_rfl] at hlen
  simp only [show Tryz.prog.cellsOf 9 = 1 from by kernel_rfl] at hel
  obtain ⟨l1⟩ := cs0
  match l1, hlen, xs, hn3, hx1, hel with
  | [c0, c1, c2, c3, c4, c5, c6, c7], _, [x0, x1, x2, x3, x4, x5, x6, x7], _, hx1, hel =>
    have hcell := World.var?_cell hg0 hv0
    have hx2 : DataW.agg [x0.fst, x1.fst, x2.fst, x3.fst, x4.fst, x5.fst, x6.fst, x7.fst] = Rows.laid_bushel_path_words := (congrArg Prod.fst hx1).symm
    unfold Rows.laid_bushel_path_words at hx2
    simp only [DataW.agg.injEq, List.cons.injEq, and_true] at hx2
    obtain ⟨q0, q1, q2, q3, q4, q5, q6, q7⟩ := hx2
    have w0 := word_open (hel 0 (by omega)) q0
    have w1 := word_open (hel 1 (by omega)) q1
    have w2 := word_open (hel 2 (by omega)) q2
    have w3 := word_open (hel 3 (by omega)) q3
    have w4 := word_open (hel 4 (by omega)) q4
    have w5 := word_open (hel 5 (by omega)) q5
    have w6 := word_open (hel 6 (by omega)) q6
    have w7 := word_open (hel 7 (by omega)) q7
    subst w0 w1 w2 w3 w4 w5 w6 w7
    have hlt : 0 < W.heap.size := World.block_lt_of_cell? _ _ (hcell 0)
    refine ⟨_, 8, rfl, ⟨by decide, by decide⟩, fun _ => ⟨0, 0, rfl, hlt, fun i hi j u hu => ?_⟩⟩
    match j, hu with
    | 0, hu =>
      match i, hi, hu with
      | 0, _, hu => exact (hcell 0).trans hu
      | 1, _, hu => exact (hcell 1).trans hu
      | 2, _, hu => exact (hcell 2).trans hu
      | 3, _, hu => exact (hcell 3).trans hu
      | 4, _, hu => exact (hcell 4).trans hu
      | 5, _, hu => exact (hcell 5).trans hu
      | 6, _, hu => exact (hcell 6).trans hu
      | 7, _, hu => exact (hcell 7).trans hu
section
variable {H : Type} {enc : TypeId × Value → H}
theorem returns_and {a : Assume} {C : Checked} {os : Os} {f : FuncId} {fn : Func} {s : ChangeSpec} {conds : List PathCond} {apart fresh handsOn again : Bool} {X : World → Array Value → Prop}
    (hX : ∀ (w w' : World) (args : Array Value), w.heap = w'.heap → X w args → X w' args)
    (own : ownKnob C.prog.godebug = none) (started : os.Started) (noInit : C.prog.inits.idxOf? f = none) (hfn : C.prog.funcs[f]? = some fn)
    (witness : ∃ (w : World) (tape : Tape) (i : Input), w.os = os ∧ (w.forCall tape i).Shaped C.prog ∧ i.vars = [] ∧ Input.okWide C.prog (w.forCall tape i) .any w.heap.size f i ∧
      ((s.pre enc C.prog fn conds apart (w.forCall tape i).memory i.args ∧ X (w.forCall tape i).memory i.args) ∧ sizedMet enc C.prog fn (OpenSpec.ofChange s) apart (w.forCall tape i).memory i.args) ∧ a.holds C.prog (lone (Frame.enter C.prog f i.args .normal) [] (w.forCall tape i)))
    (contract : ∀ (W : World) (base : Nat) (args : Array Value) (ds gs : List (DataW H)) (before : List MemPlace),
      (∀ (j : Nat) t v, fn.params[j]? = some t → args[j]? = some v → Value.okWide C.prog W .any base t v) →
      DataW.Whole enc C.prog fn.params.toList s.vars apart W args.toList ds gs before →
      X W args → W.ShapedOpen C.prog →
      Calls C.prog f args W fun e W' => ∃ v, e = .returned v ∧ s.post enc C.prog fn apart fresh handsOn again W args v W') :
    ReturnsInHanded a C os f .any (fun w args => (s.pre enc C.prog fn conds apart w args ∧ X w args) ∧ sizedMet enc C.prog fn (OpenSpec.ofChange s) apart w args) (s.post enc C.prog fn apart fresh handsOn again) := by
  refine returnsInHanded_of_calls own started noInit witness ?_
  intro w tape i _ hsh _ hok hpre _
  obtain ⟨_, _, _, fn', hfn', _, _, _, _, hval⟩ := hok
  have e : fn' = fn := Option.some.inj (hfn'.symm.trans hfn)
  subst e
  obtain ⟨⟨⟨ds, gs, before, hw, _⟩, hx⟩, _⟩ := hpre
  have hw' := DataW.Whole.of_heap (w' := w.forCall tape i) (by rfl) hw
  refine (contract (w.forCall tape i) w.heap.size i.args ds gs before hval hw' (hX _ _ _ (by rfl) hx) hsh).mono fun e W' ⟨v, he, hp⟩ => ?_
  subst he
  exact ChangeSpec.post_blind hp
end
end Go.Proofs.YtpafjhjpchdcdaaGreatDoor.Nu
/- Opening the arguments: loads. -/
namespace Go.Proofs.YtpafjhjpchdcdaaGreatDoor.Nu
open Go Go.Proofs Go.RowKit Go.ChangeShapes Go.WideShapes Go.ChangeAt Go.Joins Go.Deep Go.Proofs.YtpafjhjpchdcdaaGreatDoor
structure RlV where
  a : Option Addr
  n : Nat
  c : Nat
  g : ByteArray
  m : Int
  p : List Int
def RlV.enc (t : RlV) : List Value := [.slice t.a t.n t.c, .string t.g, .int .u8 t.m]
theorem RlV.enc_len (t : RlV) : t.enc.length = 3 := rfl
structure RlF (w : World) (B : Nat) (t : RlV) : Prop where
  n : t.n ≤ 9223372036854775807
  g : t.g.size ≤ 9223372036854775807
  m0 : 0 ≤ t.m
  m1 : t.m ≤ 255
  p : t.n ≤ 10 → Sl encI 1 w B (.slice t.a t.n t.c) t.p ∧ t.p.length = t.n
section
variable {H : Type} {enc : TypeId × Value → H} {W : World}
set_option maxRecDepth 100000 in
theorem rl_open {fuel : Nat} {cs : List Value} {x : DataW H × List MemPlace} (h : DataW.trod enc Tryz.prog W 0 (fun _ => true) true fuel 39 cs = some x) : ∃ t : RlV, cs = RlV.enc t ∧ RlF W W.heap.size t := by
  obtain ⟨xs, n, _, _, hl, hx, hf⟩ := DataW.trod_struct Tryz.underlying39 h
  rw [show Tryz.prog.cellsOf 39 = 3 from by kernel_rfl] at hl
  match cs, hl with
  | [c0, c1, c2], _ =>
    have f0 : DataW.trod enc Tryz.prog W 0 (fun _ => true) true n 34 (([c0, c1, c2].drop 0).take (Tryz.prog.cellsOf 34)) = xs[0]? := hf 0 _ rfl
    have f1 : DataW.trod enc Tryz.prog W 0 (fun _ => true) true n 9 (([c0, c1, c2].drop 1).take (Tryz.prog.cellsOf 9)) = xs[1]? := hf 1 _ rfl
    have f2 : DataW.trod enc Tryz.prog W 0 (fun _ => true) true n 5 (([c0, c1, c2].drop 2).take (Tryz.prog.cellsOf 5)) = xs[2]? := hf 2 _ rfl
    have hx2 : xs.length = 3 := hx
    rw [List.getElem?_eq_getElem (show 0 < xs.length by omega), show Tryz.prog.cellsOf 34 = 1 from by kernel_rfl] at f0
    rw [List.getElem?_eq_getElem (show 1 < xs.length by omega), show Tryz.prog.cellsOf 9 = 1 from by kernel_rfl] at f1
    rw [List.getElem?_eq_getElem (show 2 < xs.length by omega), show Tryz.prog.cellsOf 5 = 1 from by kernel_rfl] at f2
    have f0 : DataW.trod enc Tryz.prog W 0 (fun _ => true) true n 34 [c0] = some xs[0] := f0
    obtain ⟨a1, n1, c1', e0⟩ := slice_form Tryz.underlying34 f0
    obtain ⟨s, e1, _, hs⟩ := DataW.trod_string Tryz.underlying9 f1
    obtain ⟨r, e2, _, w2⟩ := DataW.trod_int Tryz.underlying5 f2
    simp at e0 e1 e2
    subst e0 e1 e2
    obtain ⟨k1, l, k2, k3⟩ := ints_all ⟨_, f0⟩
    have hw := w2
    simp [Lit.wf] at hw
    have h1 : IntKind.u8.min = 0 := rfl
    have h2 : IntKind.u8.max = 255 := by decide
    rw [h1, h2] at hw
    exact ⟨⟨a1, n1, c1', s, r, l⟩, rfl, ⟨k1, hs, hw.1, hw.2, fun h10 => ⟨k2.short (by rw [k3]; dsimp only at h10; omega), k3⟩⟩⟩
theorem loads_open {n c : Nat} {a : Option Addr} {d : DataW H} {p : List MemPlace} (h : DataW.Trod enc Tryz.prog W 0 (fun _ => true) true 26 (.slice a n c) d p) :
    n ≤ 9223372036854775807 ∧ (n ≤ 8 → ∃ l : List RlV, l.length = n ∧ Sl RlV.enc 3 W W.heap.size (.slice a n c) l ∧ ∀ t ∈ l, RlF W W.heap.size t) := by
  obtain ⟨fuel, hf⟩ := h
  obtain ⟨k1, k2⟩ := sl_open RlV.enc 3 Tryz.underlying26 (by omega) (by kernel_rfl) RlV.enc_len ⟨none, 0, 0, ⟨#[]⟩, 0, []⟩ (RlF W W.heap.size) rl_open hf
  exact ⟨k1, fun h8 => k2 (by omega)⟩
end
end Go.Proofs.YtpafjhjpchdcdaaGreatDoor.Nu
/- Walks: a plant of too many arcs is no plant; Few. -/
namespace Go.Proofs.YtpafjhjpchdcdaaGreatDoor
open Go Go.Proofs Go.RowKit Go.Shelf
def manyE (p : Pl) : Int := if p.ms.length = 0 then 2 else if 64 < p.ms.length then 5 else if ckMsL p.ms ≠ 0 then ckMsL p.ms else 5
theorem manyE_ne (p : Pl) : manyE p ≠ 0 := by
  unfold manyE
  split
  · decide
  · split
    · decide
    · split
      · assumption
      · decide
set_option maxRecDepth 100000 in
set_option maxHeartbeats 1000000 in
theorem ckMany19 (w : World) (v1 : Value) (a2 : Option Addr) (m n2 : Nat) (p : Pl) (hv : Sl Mc.enc 2 w w.heap.size v1 p.ms) (h256 : 256 < m) (hm63 : m ≤ 9223372036854775807) : Calls Tryz.prog 13 #[.agg #[v1, .slice a2 m n2]] w (Ret (.int .i64 (manyE p)) w) := by
  obtain ⟨a1, n1, rfl, hl1, hA1⟩ := hv
  have HA1 := Lib.hid hA1
  clear hA1
  obtain ⟨h11, h12⟩ := hl1
  obtain ⟨R, hR⟩ : ∃ R, manyE p = R := ⟨_, rfl⟩
  rw [hR]
  unfold manyE at hR
  have HR := Lib.hid hR
  clear hR
  have HB := Lib.hid ((Below.refl w.heap.size w).alloc (Nat.le_refl _) (.cells #[.slice a1 p.ms.length n1, .slice a2 m n2] 25))
  have HX := Lib.hid (Box.new w #[.slice a1 p.ms.length n1, .slice a2 m n2] 25)
  obtain ⟨n, hn⟩ : ∃ n, p.ms.length = n := ⟨_, rfl⟩
  rw [hn] at HR HB HX h11 h12 ⊢
  have HN := Lib.hid hn
  clear hn
  go_enter Tryz.func13, Tryz.ntmps13
  by_cases h0 : n = 0
  · subst h0
    have HV := Lib.hid (show R = 2 by rw [← HR.out]; rfl)
    go_wp2_with fail
    go_ret
    exact ⟨by rw [HV.out]; rfl, HB.out⟩
  have k0 : ((n : Int) == 0) = false := by simp; omega
  by_cases h64 : 64 < n
  · have HV := Lib.hid (show R = 5 by rw [← HR.out, if_neg h0, if_pos h64])
    have k1 : decide ((64 : Int) < (n : Int)) = true := decide_eq_true (by omega)
    go_wp2_with fail
    go_ret
    exact ⟨by rw [HV.out]; rfl, HB.out⟩
  have k1 : decide ((64 : Int) < (n : Int)) = false := decide_eq_false (by omega)
  obtain ⟨S, hS⟩ : ∃ S, ckMsL p.ms = S := ⟨_, rfl⟩
  have HR1 := Lib.hid (show (if S ≠ 0 then S else 5) = R by have h := HR.out; rw [if_neg h0, if_neg h64, hS] at h; exact h)
  have HS := Lib.hid hS
  clear HR hS
  go_wp2_with fail
  go_loopw [4] (fun j wr => ∃ k : Nat, k ≤ n ∧ j = .int .i64 k ∧ Below w.heap.size w wr ∧ Box wr w.heap.size 25 [.slice a1 n n1, .slice a2 m n2] ∧ ckMsL (p.ms.drop k) = S) (fun j _ => n - (intOf j).toNat)
  case atStart => exact ⟨0, by omega, rfl, HB.out, HX.out, HS.out⟩
  case round =>
    clear HB HX HS
    obtain ⟨k, hk, rfl, hbe, hx, hrel⟩ := hrel
    have HL := Lib.hid hrel
    have HBE := Lib.hid hbe
    have HXE := Lib.hid hx
    clear hrel
    obtain ⟨x0, x1, xf, xz⟩ := hx.v2
    by_cases hlt : k < n
    · have hkl : k < p.ms.length := by rw [HN.out]; exact hlt
      obtain ⟨b, off, rfl, hbb, hcells⟩ := HA1.out (by omega)
      obtain ⟨c0, c1⟩ := ((hcells k hkl).below hbe hbb).c2
      have hbz : b < wr.heap.size := by have := hbe.size; omega
      have hd := Lib.hid (ckMsL_drop p.ms k hkl)
      clear hcells hbe hx
      generalize p.ms[k] = mc at *
      obtain ⟨s, t⟩ := mc
      dsimp only at c0 c1
      have hba : Below wr.heap.size wr (wr.alloc (.cells #[.string s, .int .i64 t] 43)) := (Below.refl _ _).alloc (Nat.le_refl _) _
      have HK := Lib.hid (kn_some s)
      have HF1 := Lib.hid (fun w => isConveyor42 s w)
      have HF2 := Lib.hid (fun w => isFirst86 s w)
      have HF3 := Lib.hid (fun w => isLast87 s w)
      have HMB := Lib.hid (Box.new wr #[.string s, .int .i64 t] 43)
      have HB3 := Lib.hid (HBE.out.trans (hba.mono HBE.out.size))
      have HX3 := Lib.hid (HXE.out.later hba)
      obtain ⟨m0, m1, mf, mz⟩ := HMB.out.v2
      obtain ⟨qc, hqc⟩ : ∃ q, cvB s = q := ⟨_, rfl⟩
      obtain ⟨qb, hqb⟩ : ∃ q, bgB s = q := ⟨_, rfl⟩
      obtain ⟨qe, hqe⟩ : ∃ q, enB s = q := ⟨_, rfl⟩
      rw [hqc] at HK HF1
      rw [hqb] at HK HF2
      rw [hqe] at HK HF3
      obtain ⟨q, hq⟩ : ∃ q, kn s = q := ⟨_, rfl⟩
      rw [hq] at HK
      have HS2 := Lib.hid (show (if q < 0 then 20 else if t < 0 ∨ 100000 < t then 3 else ckMsL (p.ms.drop (k + 1))) = S by have h := HL.out; rw [hd.out] at h; (try dsimp only at h); rw [hq] at h; exact h)
      have HS3 := Lib.hid (show (qc || qb || qe) = true → (if t < 0 ∨ 100000 < t then 3 else ckMsL (p.ms.drop (k + 1))) = S from fun e => by
        have h1 := of_decide_eq_true (HK.out.trans e)
        have h := HS2.out
        rw [if_neg (by omega)] at h
        exact h)
      clear hba hq hqc hqb hqe HMB
      have HTL : Hid (t < 0 ∨ 100000 < t → S = 3 → R = 3) := Lib.hid (fun _ h => by rw [← HR1.out, h]; rfl)
      obtain ⟨y0, y1, yf, yz⟩ := HX3.out.v2
      go_wp2_with fail
      refine (HF1.out _).mono ?_
      rintro e w3 ⟨rfl, rfl⟩
      cases qc with
      | true =>
        have HS4 := Lib.hid (HS3.out rfl)
        clear HS3 HS2 HK HF1 HF2 HF3
        by_cases ht0 : t < 0
        · have d1 : decide (t < 0) = true := decide_eq_true ht0
          have HV := Lib.hid (show R = 3 from HTL.out (Or.inl ht0) (by rw [← HS4.out, if_pos (Or.inl ht0)]))
          clear ht0
          go_wp2_with fail
          go_ret
          exact ⟨by rw [HV.out]; rfl, HB3.out⟩
        have d1 : decide (t < 0) = false := decide_eq_false ht0
        by_cases ht1 : 100000 < t
        · have d2 : decide (100000 < t) = true := decide_eq_true ht1
          have HV := Lib.hid (show R = 3 from HTL.out (Or.inr ht1) (by rw [← HS4.out, if_pos (Or.inr ht1)]))
          clear ht0 ht1
          go_wp2_with fail
          go_ret
          exact ⟨by rw [HV.out]; rfl, HB3.out⟩
        have d2 : decide (100000 < t) = false := decide_eq_false ht1
        have HV := Lib.hid (show ckMsL (p.ms.drop (k + 1)) = S by rw [← HS4.out, if_neg (fun h => h.elim ht0 ht1)])
        clear ht0 ht1
        go_wp2_with fail
        go_roundw
        case rel => exact ⟨k + 1, by omega, by go_num, HB3.out, HX3.out, HV.out⟩
        case measure => simp [intOf]; omega
      | false =>
        go_wp2_with fail
        refine (HF2.out _).mono ?_
        rintro e w3 ⟨rfl, rfl⟩
        cases qb with
        | true =>
          have HS4 := Lib.hid (HS3.out rfl)
          clear HS3 HS2 HK HF1 HF2 HF3
          by_cases ht0 : t < 0
          · have d1 : decide (t < 0) = true := decide_eq_true ht0
            have HV := Lib.hid (show R = 3 from HTL.out (Or.inl ht0) (by rw [← HS4.out, if_pos (Or.inl ht0)]))
            clear ht0
            go_wp2_with fail
            go_ret
            exact ⟨by rw [HV.out]; rfl, HB3.out⟩
          have d1 : decide (t < 0) = false := decide_eq_false ht0
          by_cases ht1 : 100000 < t
          · have d2 : decide (100000 < t) = true := decide_eq_true ht1
            have HV := Lib.hid (show R = 3 from HTL.out (Or.inr ht1) (by rw [← HS4.out, if_pos (Or.inr ht1)]))
            clear ht0 ht1
            go_wp2_with fail
            go_ret
            exact ⟨by rw [HV.out]; rfl, HB3.out⟩
          have d2 : decide (100000 < t) = false := decide_eq_false ht1
          have HV := Lib.hid (show ckMsL (p.ms.drop (k + 1)) = S by rw [← HS4.out, if_neg (fun h => h.elim ht0 ht1)])
          clear ht0 ht1
          go_wp2_with fail
          go_roundw
          case rel => exact ⟨k + 1, by omega, by go_num, HB3.out, HX3.out, HV.out⟩
          case measure => simp [intOf]; omega
        | false =>
          go_wp2_with fail
          refine (HF3.out _).mono ?_
          rintro e w3 ⟨rfl, rfl⟩
          cases qe with
          | true =>
            have HS4 := Lib.hid (HS3.out rfl)
            clear HS3 HS2 HK HF1 HF2 HF3
            by_cases ht0 : t < 0
            · have d1 : decide (t < 0) = true := decide_eq_true ht0
              have HV := Lib.hid (show R = 3 from HTL.out (Or.inl ht0) (by rw [← HS4.out, if_pos (Or.inl ht0)]))
              clear ht0
              go_wp2_with fail
              go_ret
              exact ⟨by rw [HV.out]; rfl, HB3.out⟩
            have d1 : decide (t < 0) = false := decide_eq_false ht0
            by_cases ht1 : 100000 < t
            · have d2 : decide (100000 < t) = true := decide_eq_true ht1
              have HV := Lib.hid (show R = 3 from HTL.out (Or.inr ht1) (by rw [← HS4.out, if_pos (Or.inr ht1)]))
              clear ht0 ht1
              go_wp2_with fail
              go_ret
              exact ⟨by rw [HV.out]; rfl, HB3.out⟩
            have d2 : decide (100000 < t) = false := decide_eq_false ht1
            have HV := Lib.hid (show ckMsL (p.ms.drop (k + 1)) = S by rw [← HS4.out, if_neg (fun h => h.elim ht0 ht1)])
            clear ht0 ht1
            go_wp2_with fail
            go_roundw
            case rel => exact ⟨k + 1, by omega, by go_num, HB3.out, HX3.out, HV.out⟩
            case measure => simp [intOf]; omega
          | false =>
            have HV := Lib.hid (show R = 20 by
              have h1 := of_decide_eq_false HK.out
              have h := HS2.out
              rw [if_pos (by omega)] at h
              rw [← HR1.out, ← h]; rfl)
            clear HS3 HS2 HK HF1 HF2 HF3
            go_wp2_with fail
            go_ret
            exact ⟨by rw [HV.out]; rfl, HB3.out⟩
    · obtain rfl : n = k := by omega
      have HS0 := Lib.hid (show S = 0 by rw [← HL.out, ← HN.out, List.drop_length]; rfl)
      clear hbe hx
      · have k2 : decide ((256 : Int) < (m : Int)) = true := decide_eq_true (by omega)
        have HV := Lib.hid (show R = 5 by rw [← HR1.out, HS0.out, if_neg (by simp)])
        go_wp2_with fail
        go_ret
        exact ⟨by rw [HV.out]; rfl, HBE.out⟩
theorem few67_no (w : World) (a1 : Option Addr) (n1 c1 : Nat) (v2 : Value) (n : Int) (h : n < (n1 : Int)) (hn1 : n1 ≤ 9223372036854775807) : Calls Tryz.prog 4 #[.agg #[.slice a1 n1 c1, v2], .int .i64 n] w (Ret (.bool false) w) := by
  have HB := Lib.hid ((Below.refl w.heap.size w).alloc (Nat.le_refl _) (.cells #[.slice a1 n1 c1, v2] 25))
  have HX := Lib.hid (Box.new w #[.slice a1 n1 c1, v2] 25)
  have d1 : decide ((n1 : Int) ≤ n) = false := decide_eq_false (by omega)
  clear h
  go_enter Tryz.func4, Tryz.ntmps4
  go_wp2_with fail
  go_ret
  exact ⟨rfl, HB.out⟩
theorem few67_many (w : World) (v1 : Value) (a2 : Option Addr) (m c2 : Nat) (p : Pl) (n : Int) (hv : Sl Mc.enc 2 w w.heap.size v1 p.ms) (h256 : 256 < m) (hm63 : m ≤ 9223372036854775807) (hn : (p.ms.length : Int) ≤ n) : Calls Tryz.prog 4 #[.agg #[v1, .slice a2 m c2], .int .i64 n] w (Ret (.bool false) w) := by
  have HC := Lib.hid (fun (w1 : World) (hb : Below w.heap.size w w1) => ckMany19 w1 v1 a2 m c2 p (hv.later hb) h256 hm63)
  obtain ⟨a1, c1, rfl, ⟨h1, _⟩, h3⟩ := hv
  clear h3
  have hne := manyE_ne p
  obtain ⟨E, hE⟩ : ∃ x, manyE p = x := ⟨_, rfl⟩
  obtain ⟨n1, hn1⟩ : ∃ x, p.ms.length = x := ⟨_, rfl⟩
  rw [hE] at hne HC
  rw [hn1] at HC h1 hn ⊢
  clear hE hn1
  have HB := Lib.hid ((Below.refl w.heap.size w).alloc (Nat.le_refl _) (.cells #[.slice a1 n1 c1, .slice a2 m c2] 25))
  have HX := Lib.hid (Box.new w #[.slice a1 n1 c1, .slice a2 m c2] 25)
  have d1 : decide ((n1 : Int) ≤ n) = true := decide_eq_true (by omega)
  have d2 : (E == 0) = false := beq_eq_false_iff_ne.2 hne
  clear hne hn h256
  go_enter Tryz.func4, Tryz.ntmps4
  go_wp2_with fail
  refine (HC.out _ HB.out).mono ?_
  rintro e w2 ⟨rfl, hb⟩
  have HB2 := Lib.hid (HB.out.trans (hb.mono HB.out.size))
  go_wp2_with fail
  go_ret
  exact ⟨rfl, HB2.out⟩
end Go.Proofs.YtpafjhjpchdcdaaGreatDoor
