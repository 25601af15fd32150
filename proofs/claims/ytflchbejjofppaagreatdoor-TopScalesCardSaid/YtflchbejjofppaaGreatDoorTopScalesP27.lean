/- Lemmas on the way to the law TopScales (part 27): Le -/
import Derived.Test.YtflchbejjofppaaGreatDoorTopScalesP12
import Derived.Test.YtflchbejjofppaaGreatDoorTopScalesP19
import Derived.Test.YtflchbejjofppaaGreatDoorRows
import Derived.ProofKit
import Derived.LaidMore
import Derived.Lay
import Derived.OpenShut
import Derived.Stop.Joined
import Derived.ChangeStays
import Derived.Lib.SmallJoins
import Derived.Deep.SlicePairs
set_option linter.unusedVariables false
set_option linter.unusedSimpArgs false

/- What the rows of the laws need, whatever the law: arguments opened, and read again behind the call; the laid tables; the row's wrap. -/
namespace Go.Proofs.YtflchbejjofppaaGreatDoor.Nu
open Go Go.Proofs Go.RowKit Go.ChangeShapes Go.WideShapes Go.ChangeAt Go.Joins Go.Deep Go.Proofs.YtflchbejjofppaaGreatDoor
theorem ownTop : ownKnob Tryz.prog.godebug = none := by kernel_rfl
theorem kidsTop : Kids Tryz.prog (· < Tryz.prog.types.size) := kids_rows (by kernel_rfl) (by kernel_rfl)
theorem fullTop : ∀ t e, t < Tryz.prog.types.size → Tryz.prog.underlying t = some (.slice e) → 0 < Tryz.prog.cellsOf e := slices_full_of Tryz.prog (by kernel_rfl)
theorem u22Top : Tryz.prog.underlying 22 = some (.slice 34) := by kernel_rfl
def laidT : List (String × DataW Unit) := [("math/bits.deBruijn32tab", Rows.laid_math_bits_deBruijn32tab), ("math/bits.deBruijn64tab", Rows.laid_math_bits_deBruijn64tab), ("internal/strconv.uint64pow10", Rows.laid_internal_strconv_uint64pow10), ("unicode/utf8.acceptRanges", Rows.laid_unicode_utf8_acceptRanges), ("strconv.ErrRange", Rows.laid_strconv_ErrRange), ("strconv.ErrSyntax", Rows.laid_strconv_ErrSyntax), ("unicode/utf8.first", Rows.laid_unicode_utf8_first)]
theorem door_met (os : Os) (args : Array Value) : laidMetH Tryz.prog laidT ((World.laidAll Tryz.prog os laidT).forCall (fun _ _ => 0) ⟨#[], args, []⟩).memory := by
  rw [MakeChecks.laidMetH_plain _ _ _ (by kernel_rfl)]
  exact laidMet_laidAll _ (by kernel_rfl) (by kernel_rfl)
theorem door_shaped (os : Os) (args : Array Value) : ((World.laidAll Tryz.prog os laidT).forCall (fun _ _ => 0) ⟨#[], args, []⟩).Shaped Tryz.prog :=
  World.shaped_of_ZipB (by kernel_rfl) (by kernel_rfl)
theorem laidMet_tail {P : Program} {x : String × DataW Unit} {r : List (String × DataW Unit)} {w : World} (h : laidMet P (x :: r) w) : laidMet P r w := by
  obtain ⟨ps, ⟨g, t, cs, fuel, p, q, hg, ht, hv, hd, hr, rfl⟩, hn, hc⟩ := h
  exact ⟨q, hr, (List.nodup_append.1 hn).2.1, fun b off hm => hc b off (List.mem_append_right _ hm)⟩
set_option maxRecDepth 100000 in
theorem tabs_of_laid {W : World} (h : laidMetH Tryz.prog laidT W) (hs : W.ShapedOpen Tryz.prog) : TbR W := by
  rw [MakeChecks.laidMetH_plain _ _ _ (by kernel_rfl)] at h
  have h2 := laidMet_tail (laidMet_tail h)
  exact ⟨Lib.tabIs_of_head (g := 5) (t := 244) (e := 157) (n := 20) (by kernel_rfl) (by kernel_rfl) (by kernel_rfl) (by kernel_rfl) (by kernel_rfl) (by kernel_rfl) h2, Tryz.laysM145.s1_3 W hs⟩
section
variable {H : Type} {enc : TypeId × Value → H} {W W' : World}
theorem stays {t : TypeId} (ht : t < Tryz.prog.types.size) (hb : Below W.heap.size W W') {v : Value} {d : DataW H} {p : List MemPlace} (h : DataW.Trod enc Tryz.prog W 0 (fun _ => true) true t v d p) (sp : Nat → Bool) (hs : ∀ q ∈ p, sp q.block = true) :
    DataW.Trod enc Tryz.prog W' 0 sp true t v d p := by
  obtain ⟨n, hn⟩ := h
  exact ⟨n, DataW.trod_stays kidsTop (fun a b => fullTop _ _ a b) (fun e => by cases e) ht hn (fun q hq => hb.same (DataW.trod_lt n _ _ _ hn q hq)) hs⟩
theorem allStay (hb : Below W.heap.size W W') (sp : Nat → Bool) : ∀ {ts : List TypeId} {vs : List Value} {ds : List (DataW H)} {p : List MemPlace}, (∀ t ∈ ts, t < Tryz.prog.types.size) → (∀ q ∈ p, sp q.block = true) →
    DataW.TrodAll enc Tryz.prog W 0 (fun _ => true) true ts vs ds p → DataW.TrodAll enc Tryz.prog W' 0 sp true ts vs ds p
  | [], [], [], _, _, _, h => h
  | _ :: _, _ :: _, _ :: _, _, ht, hs, ⟨p, q, h1, h2, e⟩ =>
    ⟨p, q, stays (ht _ (by simp)) hb h1 sp (fun x hx => hs x (by rw [e]; simp [hx])), allStay hb sp (fun t h => ht t (by simp [h])) (fun x hx => hs x (by rw [e]; simp [hx])) h2, e⟩
theorem law_post {f : Func} {s : ChangeSpec} {args : Array Value} {ds gs : List (DataW H)} {before : List MemPlace} (hs : s.vars = []) (hr : f.resultTypes.toList = [4]) (hsz : f.resultTypes.size = 1) (hT : ∀ t ∈ f.params.toList, t < Tryz.prog.types.size)
    (hW : DataW.Whole enc Tryz.prog f.params.toList s.vars false W args.toList ds gs before) (h1 : (s.fn H ds).results = [.lit (.bool true)]) (h2 : (s.fn H ds).args = ds) (h3 : (s.fn H ds).vars = []) (hb : Below W.heap.size W W') :
    s.post enc Tryz.prog f false true false false W args (.bool true) W' := by
  have hlt := hW.lt
  have hW0 := hW
  obtain ⟨p, q, hA, hV, rfl, hz, hn⟩ := hW
  rw [hs] at hV
  obtain ⟨rfl, rfl⟩ := trodVars_none hV
  rw [List.append_nil] at hlt hW0
  refine ⟨ds, [], p, [], p, [], hW0, ?_, ?_, ?_, World.keptBut_mono (fun x hx => ⟨hx, .inr (.inl hx)⟩) (hb.frame (· ∈ p)), fun e => by cases e⟩
  · rw [List.append_nil, h1, hr, hsz]
    exact trodAll_mk1 (shut_bool Tryz.underlying4 true)
  · rw [List.append_nil, h2]
    exact allStay hb _ hT (fun x hx => by simpa using hlt x hx) hA
  · rw [List.append_nil, h3, hs]
    rfl
theorem add_at (b off i : Nat) : (⟨b, off, none⟩ : Addr).add i = ⟨b, off + i, none⟩ := add_plain _ _ _
theorem sl_make {α : Type} (f : α → List Value) (sz : Nat) (hsz : 0 < sz) (hf : ∀ x, (f x).length = sz) {n c : Nat} {a : Addr} (hn : n ≤ 1000000000) (x0 : α)
    (hx : ∀ i, i < n → ∃ x : α, ∀ j u, (f x)[j]? = some u → W.cell? (a.add (i * sz + j)) = some u) :
    ∃ l : List α, l.length = n ∧ Sl f sz W W.heap.size (.slice (some a) n c) l ∧ ∀ i (h : i < l.length) j u, (f l[i])[j]? = some u → W.cell? (a.add (i * sz + j)) = some u := by
  have hch : ∃ g : Nat → α, ∀ i, i < n → ∀ j u, (f (g i))[j]? = some u → W.cell? (a.add (i * sz + j)) = some u := by
    refine ⟨fun i => if h : i < n then Classical.choose (hx i h) else x0, fun i hi j u hu => ?_⟩
    simp only [dif_pos hi] at hu
    exact Classical.choose_spec (hx i hi) j u hu
  obtain ⟨g, hg⟩ := hch
  have hl : ((List.range n).map g).length = n := by simp
  refine ⟨(List.range n).map g, hl, ⟨some a, c, by rw [hl], by rw [hl]; exact hn, fun h0 => ?_⟩, fun i hi j u hu => ?_⟩
  · rw [hl] at h0
    have hne : (f (g 0)) ≠ [] := by intro e; have := hf (g 0); rw [e] at this; simp at this; omega
    obtain ⟨u0, us, e0⟩ := List.exists_cons_of_ne_nil hne
    have h00 := hg 0 h0 0 u0 (by rw [e0]; rfl)
    obtain ⟨b, off, spot⟩ := a
    have hs2 : spot = none := by simpa [Addr.add] using World.cell?_spot h00
    subst hs2
    refine ⟨b, off, rfl, by simpa [Addr.add] using World.block_lt_of_cell? _ _ h00, fun i hi j u hu => ?_⟩
    have := hg i (by rw [hl] at hi; exact hi) j u (by simpa using hu)
    rw [add_at] at this
    rw [Nat.add_assoc]; exact this
  · exact hg i (by rw [hl] at hi; exact hi) j u (by simpa using hu)
set_option maxRecDepth 100000 in
theorem sl_ranges_at {fuel n c : Nat} {a : Option Addr} {x : DataW H × List MemPlace} (hf : DataW.trod enc Tryz.prog W 0 (fun _ => true) true fuel 22 [.slice a n c] = some x) :
    n ≤ 9223372036854775807 ∧ (n ≤ 1000000000 → ∃ l, l.length = n ∧ Sl Rg.enc 2 W W.heap.size (.slice a n c) l ∧ ∀ r ∈ l, (Lit.int .i64 r.lo).wf = true ∧ (Lit.int .i64 r.hi).wf = true) := by
  rcases open_slice_pairs u22Top Tryz.underlying34 (by kernel_rfl) rfl rfl (by kernel_rfl) (by kernel_rfl) hf with ⟨hcs, _⟩ | ⟨a', len, cap, m, k, V0, V1, D0, D1, P0, P1, hcs, _, hl, hm, hz, _, hcell⟩
  · simp at hcs
    obtain ⟨rfl, rfl, rfl⟩ := hcs
    exact ⟨by omega, fun _ => ⟨[], rfl, Sl.nil _ _ _ _ _ _, by simp⟩⟩
  · simp at hcs
    obtain ⟨rfl, rfl, rfl⟩ := hcs
    simp only [if_true] at hz
    subst hz
    refine ⟨by unfold maxLen at hm; omega, fun hn => ?_⟩
    have key : ∀ i, i < n → ∃ x : Rg, (∀ j u, (Rg.enc x)[j]? = some u → W.cell? (a'.add (i * 2 + j)) = some u) ∧ (Lit.int .i64 x.lo).wf = true ∧ (Lit.int .i64 x.hi).wf = true := by
      intro i hi
      obtain ⟨h0, h1, h2, h3⟩ := hcell i (by omega)
      obtain ⟨x, e0, _, w0⟩ := DataW.trod_int Tryz.underlying3 h2
      obtain ⟨y, e1, _, w1⟩ := DataW.trod_int Tryz.underlying3 h3
      simp at e0 e1
      rw [e0] at h0
      rw [e1] at h1
      refine ⟨⟨x, y⟩, fun j u hu => ?_, w0, w1⟩
      match j, hu with
      | 0, hu => simp [Rg.enc] at hu; subst hu; exact h0
      | 1, hu => simp [Rg.enc] at hu; subst hu; exact h1
    obtain ⟨l, e1, e2, e3⟩ := sl_make (c := _) Rg.enc 2 (by omega) Rg.enc_len hn ⟨0, 0⟩ (fun i hi => by obtain ⟨x, hx, _⟩ := key i hi; exact ⟨x, hx⟩)
    refine ⟨l, e1, e2, fun r hr => ?_⟩
    obtain ⟨i, hi, rfl⟩ := List.mem_iff_getElem.1 hr
    obtain ⟨x, hx, hw0, hw1⟩ := key i (by omega)
    have g0 := e3 i hi 0 _ rfl
    have g1 := e3 i hi 1 _ rfl
    rw [hx 0 _ rfl] at g0
    rw [hx 1 _ rfl] at g1
    injection g0 with g0
    injection g0 with _ g0
    injection g1 with g1
    injection g1 with _ g1
    rw [← g0, ← g1]
    exact ⟨hw0, hw1⟩
theorem sl_ranges {n c : Nat} {a : Option Addr} {d : DataW H} {p : List MemPlace} (h : DataW.Trod enc Tryz.prog W 0 (fun _ => true) true 22 (.slice a n c) d p) :
    n ≤ 9223372036854775807 ∧ (n ≤ 1000000000 → ∃ l, l.length = n ∧ Sl Rg.enc 2 W W.heap.size (.slice a n c) l ∧ ∀ r ∈ l, (Lit.int .i64 r.lo).wf = true ∧ (Lit.int .i64 r.hi).wf = true) := by
  obtain ⟨fuel, hf⟩ := h
  exact sl_ranges_at hf
set_option maxRecDepth 100000 in
theorem rg_open {r : Reach} {b0 : Nat} {v : Value} {d : DataW H} {p : List MemPlace} (hv : Value.okWide Tryz.prog W r b0 34 v) (h : DataW.Trod enc Tryz.prog W 0 (fun _ => true) true 34 v d p) : ∃ x : Rg, v = .agg #[.int .i64 x.lo, .int .i64 x.hi] := by
  obtain ⟨v0, v1, y0, y1, n, rfl, _, _, h0, h1⟩ := open_agg2 Tryz.underlying34 (by kernel_rfl) (by kernel_rfl) hv h
  obtain ⟨a, e0, _⟩ := DataW.trod_int Tryz.underlying3 h0
  obtain ⟨b, e1, _⟩ := DataW.trod_int Tryz.underlying3 h1
  cases e0
  cases e1
  exact ⟨⟨a, b⟩, rfl⟩
theorem returns_and {a : Assume} {C : Checked} {os : Os} {f : FuncId} {fn : Func} {s : ChangeSpec} {conds : List PathCond} {apart fresh handsOn again : Bool} {X : World → Array Value → Prop}
    (hX : ∀ (w w' : World) (args : Array Value), w.heap = w'.heap → X w args → X w' args)
    (own : ownKnob C.prog.godebug = none) (started : os.Started) (noInit : C.prog.inits.idxOf? f = none) (hfn : C.prog.funcs[f]? = some fn)
    (witness : ∃ (w : World) (tape : Tape) (i : Input), w.os = os ∧ (w.forCall tape i).Shaped C.prog ∧ i.vars = [] ∧ Input.okWide C.prog (w.forCall tape i) .any w.heap.size f i ∧
      ((s.pre enc C.prog fn conds apart (w.forCall tape i).memory i.args ∧ X (w.forCall tape i).memory i.args) ∧ sizedMet enc C.prog fn (OpenSpec.ofChange s) apart (w.forCall tape i).memory i.args) ∧ a.holds C.prog (lone (Frame.enter C.prog f i.args .normal) [] (w.forCall tape i)))
    (contract : ∀ (W : World) (base : Nat) (args : Array Value) (ds gs : List (DataW H)) (before : List MemPlace),
      (∀ (j : Nat) t v, fn.params[j]? = some t → args[j]? = some v → Value.okWide C.prog W .any base t v) →
      DataW.Whole enc C.prog fn.params.toList s.vars apart W args.toList ds gs before →
      X W args → W.ShapedOpen C.prog →
      Calls C.prog f args W fun e W' => ∃ v, e = .returned v ∧ s.post enc C.prog fn apart fresh handsOn again W args v W') :
    ReturnsInHanded a C os f .any (fun w args => (s.pre enc C.prog fn conds apart w args ∧ X w args) ∧ sizedMet enc C.prog fn (OpenSpec.ofChange s) apart w args) (s.post enc C.prog fn apart fresh handsOn again) := by
  refine returnsInHanded_of_calls own started noInit witness ?_
  intro w tape i _ hsh _ hok hpre _
  obtain ⟨_, _, _, fn', hfn', _, _, _, _, hval⟩ := hok
  have e : fn' = fn := Option.some.inj (hfn'.symm.trans hfn)
  subst e
  obtain ⟨⟨⟨ds, gs, before, hw, _⟩, hx⟩, _⟩ := hpre
  have hw' := DataW.Whole.of_heap (w' := w.forCall tape i) (by rfl) hw
  refine (contract (w.forCall tape i) w.heap.size i.args ds gs before hval hw' (hX _ _ _ (by rfl) hx) hsh).mono fun e W' ⟨v, he, hp⟩ => ?_
  subst he
  exact ChangeSpec.post_blind hp
end
end Go.Proofs.YtflchbejjofppaaGreatDoor.Nu
