/- Lemmas on the way to the law TopChanges (part 25): Le WVa Ko Kp Kq Hf -/
import Derived.Test.YtflchbejjofppaaGreatDoorTopChangesP14
import Derived.Test.YtflchbejjofppaaGreatDoorTopChangesP22
import Derived.Test.YtflchbejjofppaaGreatDoorRows
import Derived.ProofKit
import Derived.LaidMore
import Derived.Lay
import Derived.OpenShut
import Derived.Stop.Joined
import Derived.ChangeStays
import Derived.Lib.SmallJoins
import Derived.Deep.SlicePairs
import Derived.Test.YtflchbejjofppaaGreatDoorTopChangesP07
import Derived.Test.YtflchbejjofppaaGreatDoorTopChangesP24
import Derived.Test.YtflchbejjofppaaGreatDoorTopChangesP13
import Derived.Test.YtflchbejjofppaaGreatDoorTopChangesP16
set_option linter.unusedVariables false
set_option linter.unusedSimpArgs false

/- What the rows of the laws need, whatever the law: arguments opened, and read again behind the call; the laid tables; the row's wrap. -/
namespace Go.Proofs.YtflchbejjofppaaGreatDoor.Nu
open Go Go.Proofs Go.RowKit Go.ChangeShapes Go.WideShapes Go.ChangeAt Go.Joins Go.Deep Go.Proofs.YtflchbejjofppaaGreatDoor
theorem ownTop : ownKnob Tryz.prog.godebug = none := by kernel_rfl
theorem kidsTop : Kids Tryz.prog (· < Tryz.prog.types.size) := kids_rows (by kernel_rfl) (by kernel_rfl)
theorem fullTop : ∀ t e, t < Tryz.prog.types.size → Tryz.prog.underlying t = some (.slice e) → 0 < Tryz.prog.cellsOf e := slices_full_of Tryz.prog (by kernel_rfl)
theorem u22Top : Tryz.prog.underlying 22 = some (.slice 34) := by kernel_rfl
def laidT : List (String × DataW Unit) := [("math/bits.deBruijn32tab", Rows.laid_math_bits_deBruijn32tab), ("math/bits.deBruijn64tab", Rows.laid_math_bits_deBruijn64tab), ("internal/strconv.uint64pow10", Rows.laid_internal_strconv_uint64pow10), ("unicode/utf8.acceptRanges", Rows.laid_unicode_utf8_acceptRanges), ("strconv.ErrRange", Rows.laid_strconv_ErrRange), ("strconv.ErrSyntax", Rows.laid_strconv_ErrSyntax), ("unicode/utf8.first", Rows.laid_unicode_utf8_first)]
theorem door_met (os : Os) (args : Array Value) : laidMetH Tryz.prog laidT ((World.laidAll Tryz.prog os laidT).forCall (fun _ _ => 0) ⟨#[], args, []⟩).memory := by
  rw [MakeChecks.laidMetH_plain _ _ _ (by kernel_rfl)]
  exact laidMet_laidAll _ (by kernel_rfl) (by kernel_rfl)
theorem door_shaped (os : Os) (args : Array Value) : ((World.laidAll Tryz.prog os laidT).forCall (fun _ _ => 0) ⟨#[], args, []⟩).Shaped Tryz.prog :=
  World.shaped_of_ZipB (by kernel_rfl) (by kernel_rfl)
theorem laidMet_tail {P : Program} {x : String × DataW Unit} {r : List (String × DataW Unit)} {w : World} (h : laidMet P (x :: r) w) : laidMet P r w := by
  obtain ⟨ps, ⟨g, t, cs, fuel, p, q, hg, ht, hv, hd, hr, rfl⟩, hn, hc⟩ := h
  exact ⟨q, hr, (List.nodup_append.1 hn).2.1, fun b off hm => hc b off (List.mem_append_right _ hm)⟩
set_option maxRecDepth 100000 in
theorem tabs_of_laid {W : World} (h : laidMetH Tryz.prog laidT W) (hs : W.ShapedOpen Tryz.prog) : TbR W := by
  rw [MakeChecks.laidMetH_plain _ _ _ (by kernel_rfl)] at h
  have h2 := laidMet_tail (laidMet_tail h)
  exact ⟨Lib.tabIs_of_head (g := 5) (t := 244) (e := 157) (n := 20) (by kernel_rfl) (by kernel_rfl) (by kernel_rfl) (by kernel_rfl) (by kernel_rfl) (by kernel_rfl) h2, Tryz.laysM145.s1_3 W hs⟩
section
variable {H : Type} {enc : TypeId × Value → H} {W W' : World}
theorem stays {t : TypeId} (ht : t < Tryz.prog.types.size) (hb : Below W.heap.size W W') {v : Value} {d : DataW H} {p : List MemPlace} (h : DataW.Trod enc Tryz.prog W 0 (fun _ => true) true t v d p) (sp : Nat → Bool) (hs : ∀ q ∈ p, sp q.block = true) :
    DataW.Trod enc Tryz.prog W' 0 sp true t v d p := by
  obtain ⟨n, hn⟩ := h
  exact ⟨n, DataW.trod_stays kidsTop (fun a b => fullTop _ _ a b) (fun e => by cases e) ht hn (fun q hq => hb.same (DataW.trod_lt n _ _ _ hn q hq)) hs⟩
theorem allStay (hb : Below W.heap.size W W') (sp : Nat → Bool) : ∀ {ts : List TypeId} {vs : List Value} {ds : List (DataW H)} {p : List MemPlace}, (∀ t ∈ ts, t < Tryz.prog.types.size) → (∀ q ∈ p, sp q.block = true) →
    DataW.TrodAll enc Tryz.prog W 0 (fun _ => true) true ts vs ds p → DataW.TrodAll enc Tryz.prog W' 0 sp true ts vs ds p
  | [], [], [], _, _, _, h => h
  | _ :: _, _ :: _, _ :: _, _, ht, hs, ⟨p, q, h1, h2, e⟩ =>
    ⟨p, q, stays (ht _ (by simp)) hb h1 sp (fun x hx => hs x (by rw [e]; simp [hx])), allStay hb sp (fun t h => ht t (by simp [h])) (fun x hx => hs x (by rw [e]; simp [hx])) h2, e⟩
theorem law_post {f : Func} {s : ChangeSpec} {args : Array Value} {ds gs : List (DataW H)} {before : List MemPlace} (hs : s.vars = []) (hr : f.resultTypes.toList = [4]) (hsz : f.resultTypes.size = 1) (hT : ∀ t ∈ f.params.toList, t < Tryz.prog.types.size)
    (hW : DataW.Whole enc Tryz.prog f.params.toList s.vars false W args.toList ds gs before) (h1 : (s.fn H ds).results = [.lit (.bool true)]) (h2 : (s.fn H ds).args = ds) (h3 : (s.fn H ds).vars = []) (hb : Below W.heap.size W W') :
    s.post enc Tryz.prog f false true false false W args (.bool true) W' := by
  have hlt := hW.lt
  have hW0 := hW
  obtain ⟨p, q, hA, hV, rfl, hz, hn⟩ := hW
  rw [hs] at hV
  obtain ⟨rfl, rfl⟩ := trodVars_none hV
  rw [List.append_nil] at hlt hW0
  refine ⟨ds, [], p, [], p, [], hW0, ?_, ?_, ?_, World.keptBut_mono (fun x hx => ⟨hx, .inr (.inl hx)⟩) (hb.frame (· ∈ p)), fun e => by cases e⟩
  · rw [List.append_nil, h1, hr, hsz]
    exact trodAll_mk1 (shut_bool Tryz.underlying4 true)
  · rw [List.append_nil, h2]
    exact allStay hb _ hT (fun x hx => by simpa using hlt x hx) hA
  · rw [List.append_nil, h3, hs]
    rfl
theorem add_at (b off i : Nat) : (⟨b, off, none⟩ : Addr).add i = ⟨b, off + i, none⟩ := add_plain _ _ _
theorem sl_make {α : Type} (f : α → List Value) (sz : Nat) (hsz : 0 < sz) (hf : ∀ x, (f x).length = sz) {n c : Nat} {a : Addr} (hn : n ≤ 1000000000) (x0 : α)
    (hx : ∀ i, i < n → ∃ x : α, ∀ j u, (f x)[j]? = some u → W.cell? (a.add (i * sz + j)) = some u) :
    ∃ l : List α, l.length = n ∧ Sl f sz W W.heap.size (.slice (some a) n c) l ∧ ∀ i (h : i < l.length) j u, (f l[i])[j]? = some u → W.cell? (a.add (i * sz + j)) = some u := by
  have hch : ∃ g : Nat → α, ∀ i, i < n → ∀ j u, (f (g i))[j]? = some u → W.cell? (a.add (i * sz + j)) = some u := by
    refine ⟨fun i => if h : i < n then Classical.choose (hx i h) else x0, fun i hi j u hu => ?_⟩
    simp only [dif_pos hi] at hu
    exact Classical.choose_spec (hx i hi) j u hu
  obtain ⟨g, hg⟩ := hch
  have hl : ((List.range n).map g).length = n := by simp
  refine ⟨(List.range n).map g, hl, ⟨some a, c, by rw [hl], by rw [hl]; exact hn, fun h0 => ?_⟩, fun i hi j u hu => ?_⟩
  · rw [hl] at h0
    have hne : (f (g 0)) ≠ [] := by intro e; have := hf (g 0); rw [e] at this; simp at this; omega
    obtain ⟨u0, us, e0⟩ := List.exists_cons_of_ne_nil hne
    have h00 := hg 0 h0 0 u0 (by rw [e0]; rfl)
    obtain ⟨b, off, spot⟩ := a
    have hs2 : spot = none := by simpa [Addr.add] using World.cell?_spot h00
    subst hs2
    refine ⟨b, off, rfl, by simpa [Addr.add] using World.block_lt_of_cell? _ _ h00, fun i hi j u hu => ?_⟩
    have := hg i (by rw [hl] at hi; exact hi) j u (by simpa using hu)
    rw [add_at] at this
    rw [Nat.add_assoc]; exact this
  · exact hg i (by rw [hl] at hi; exact hi) j u (by simpa using hu)
set_option maxRecDepth 100000 in
theorem sl_ranges_at {fuel n c : Nat} {a : Option Addr} {x : DataW H × List MemPlace} (hf : DataW.trod enc Tryz.prog W 0 (fun _ => true) true fuel 22 [.slice a n c] = some x) :
    n ≤ 9223372036854775807 ∧ (n ≤ 1000000000 → ∃ l, l.length = n ∧ Sl Rg.enc 2 W W.heap.size (.slice a n c) l ∧ ∀ r ∈ l, (Lit.int .i64 r.lo).wf = true ∧ (Lit.int .i64 r.hi).wf = true) := by
  rcases open_slice_pairs u22Top Tryz.underlying34 (by kernel_rfl) rfl rfl (by kernel_rfl) (by kernel_rfl) hf with ⟨hcs, _⟩ | ⟨a', len, cap, m, k, V0, V1, D0, D1, P0, P1, hcs, _, hl, hm, hz, _, hcell⟩
  · simp at hcs
    obtain ⟨rfl, rfl, rfl⟩ := hcs
    exact ⟨by omega, fun _ => ⟨[], rfl, Sl.nil _ _ _ _ _ _, by simp⟩⟩
  · simp at hcs
    obtain ⟨rfl, rfl, rfl⟩ := hcs
    simp only [if_true] at hz
    subst hz
    refine ⟨by unfold maxLen at hm; omega, fun hn => ?_⟩
    have key : ∀ i, i < n → ∃ x : Rg, (∀ j u, (Rg.enc x)[j]? = some u → W.cell? (a'.add (i * 2 + j)) = some u) ∧ (Lit.int .i64 x.lo).wf = true ∧ (Lit.int .i64 x.hi).wf = true := by
      intro i hi
      obtain ⟨h0, h1, h2, h3⟩ := hcell i (by omega)
      obtain ⟨x, e0, _, w0⟩ := DataW.trod_int Tryz.underlying3 h2
      obtain ⟨y, e1, _, w1⟩ := DataW.trod_int Tryz.underlying3 h3
      simp at e0 e1
      rw [e0] at h0
      rw [e1] at h1
      refine ⟨⟨x, y⟩, fun j u hu => ?_, w0, w1⟩
      match j, hu with
      | 0, hu => simp [Rg.enc] at hu; subst hu; exact h0
      | 1, hu => simp [Rg.enc] at hu; subst hu; exact h1
    obtain ⟨l, e1, e2, e3⟩ := sl_make (c := _) Rg.enc 2 (by omega) Rg.enc_len hn ⟨0, 0⟩ (fun i hi => by obtain ⟨x, hx, _⟩ := key i hi; exact ⟨x, hx⟩)
    refine ⟨l, e1, e2, fun r hr => ?_⟩
    obtain ⟨i, hi, rfl⟩ := List.mem_iff_getElem.1 hr
    obtain ⟨x, hx, hw0, hw1⟩ := key i (by omega)
    have g0 := e3 i hi 0 _ rfl
    have g1 := e3 i hi 1 _ rfl
    rw [hx 0 _ rfl] at g0
    rw [hx 1 _ rfl] at g1
    injection g0 with g0
    injection g0 with _ g0
    injection g1 with g1
    injection g1 with _ g1
    rw [← g0, ← g1]
    exact ⟨hw0, hw1⟩
theorem returns_and {a : Assume} {C : Checked} {os : Os} {f : FuncId} {fn : Func} {s : ChangeSpec} {conds : List PathCond} {apart fresh handsOn again : Bool} {X : World → Array Value → Prop}
    (hX : ∀ (w w' : World) (args : Array Value), w.heap = w'.heap → X w args → X w' args)
    (own : ownKnob C.prog.godebug = none) (started : os.Started) (noInit : C.prog.inits.idxOf? f = none) (hfn : C.prog.funcs[f]? = some fn)
    (witness : ∃ (w : World) (tape : Tape) (i : Input), w.os = os ∧ (w.forCall tape i).Shaped C.prog ∧ i.vars = [] ∧ Input.okWide C.prog (w.forCall tape i) .any w.heap.size f i ∧
      ((s.pre enc C.prog fn conds apart (w.forCall tape i).memory i.args ∧ X (w.forCall tape i).memory i.args) ∧ sizedMet enc C.prog fn (OpenSpec.ofChange s) apart (w.forCall tape i).memory i.args) ∧ a.holds C.prog (lone (Frame.enter C.prog f i.args .normal) [] (w.forCall tape i)))
    (contract : ∀ (W : World) (base : Nat) (args : Array Value) (ds gs : List (DataW H)) (before : List MemPlace),
      (∀ (j : Nat) t v, fn.params[j]? = some t → args[j]? = some v → Value.okWide C.prog W .any base t v) →
      DataW.Whole enc C.prog fn.params.toList s.vars apart W args.toList ds gs before →
      X W args → W.ShapedOpen C.prog →
      Calls C.prog f args W fun e W' => ∃ v, e = .returned v ∧ s.post enc C.prog fn apart fresh handsOn again W args v W') :
    ReturnsInHanded a C os f .any (fun w args => (s.pre enc C.prog fn conds apart w args ∧ X w args) ∧ sizedMet enc C.prog fn (OpenSpec.ofChange s) apart w args) (s.post enc C.prog fn apart fresh handsOn again) := by
  refine returnsInHanded_of_calls own started noInit witness ?_
  intro w tape i _ hsh _ hok hpre _
  obtain ⟨_, _, _, fn', hfn', _, _, _, _, hval⟩ := hok
  have e : fn' = fn := Option.some.inj (hfn'.symm.trans hfn)
  subst e
  obtain ⟨⟨⟨ds, gs, before, hw, _⟩, hx⟩, _⟩ := hpre
  have hw' := DataW.Whole.of_heap (w' := w.forCall tape i) (by rfl) hw
  refine (contract (w.forCall tape i) w.heap.size i.args ds gs before hval hw' (hX _ _ _ (by rfl) hx) hsh).mono fun e W' ⟨v, he, hp⟩ => ?_
  subst he
  exact ChangeSpec.post_blind hp
end
end Go.Proofs.YtflchbejjofppaaGreatDoor.Nu
/- Lists that are longer than my readings of slices allow: CheckNumbers on them. -/
namespace Go.Proofs.YtflchbejjofppaaGreatDoor
open Go Go.Proofs Go.RowKit Go.ChangeShapes Go.WideShapes Go.ChangeAt Go.Joins Go.Deep
def SlL {α : Type} (f : α → List Value) (sz : Nat) (w : World) (B : Nat) (v : Value) (l : List α) : Prop :=
  ∃ a c, v = .slice a l.length c ∧ l.length ≤ 9223372036854775807 ∧ (0 < l.length → ∃ b off, a = some ⟨b, off, none⟩ ∧ b < B ∧
    ∀ i (h : i < l.length), At w b (off + i * sz) (f l[i]))
theorem SlL.below {α : Type} {f : α → List Value} {sz : Nat} {w w' : World} {B : Nat} {v : Value} {l : List α} (h : SlL f sz w B v l) (hb : Below B w w') : SlL f sz w' B v l := by
  obtain ⟨a, c, rfl, hl, h⟩ := h
  refine ⟨a, c, rfl, hl, fun h0 => ?_⟩
  obtain ⟨b, off, rfl, hB, hc⟩ := h h0
  exact ⟨b, off, rfl, hB, fun i hi => (hc i hi).below hb hB⟩
theorem SlL.later {α : Type} {f : α → List Value} {sz : Nat} {w w' : World} {v : Value} {l : List α} (h : SlL f sz w w.heap.size v l) (hb : Below w.heap.size w w') : SlL f sz w' w'.heap.size v l := by
  obtain ⟨a, c, rfl, hl, h⟩ := h
  refine ⟨a, c, rfl, hl, fun h0 => ?_⟩
  obtain ⟨b, off, rfl, hB, hc⟩ := h h0
  exact ⟨b, off, rfl, Nat.lt_of_lt_of_le hB hb.size, fun i hi => (hc i hi).below hb hB⟩
theorem SlL.nil {α : Type} {f : α → List Value} {sz : Nat} {w : World} {B : Nat} {a : Option Addr} {c : Nat} : SlL f sz w B (.slice a 0 c) ([] : List α) :=
  ⟨a, c, rfl, by simp, fun h => by simp at h⟩
theorem SlL.short {α : Type} {f : α → List Value} {sz : Nat} {w : World} {B : Nat} {v : Value} {l : List α} (h : SlL f sz w B v l) (hl : l.length ≤ 1000000000) : Sl f sz w B v l := by
  obtain ⟨a, c, e, _, hA⟩ := h
  exact ⟨a, c, e, hl, hA⟩
theorem nodup_small : ∀ (n : Nat) (l : List Int), l.Nodup → (∀ x ∈ l, 0 ≤ x ∧ x < n) → l.length ≤ n
  | 0, l, _, h => by
    cases l with
    | nil => simp
    | cons x t => have := h x (by simp); omega
  | n + 1, l, hn, h => by
    by_cases hm : (n : Int) ∈ l
    · have h1 := nodup_small n (l.erase n) (hn.erase _) (fun x hx => by
        have h2 := h x (List.mem_of_mem_erase hx)
        have h3 : x ≠ n := fun e => by subst e; exact (List.Nodup.mem_erase_iff hn).1 hx |>.1 rfl
        omega)
      have := List.length_erase_of_mem hm
      omega
    · have := nodup_small n l hn (fun x hx => by
        have h2 := h x hx
        have h3 : x ≠ n := fun e => by subst e; exact hm hx
        omega)
      omega
theorem ckNums_long {l : List Int} {n : Nat} (h : n < l.length) : ckNums l n ≠ 0 := by
  intro h0
  unfold ckNums at h0
  split at h0
  · omega
  · split at h0
    · rename_i h1 h2
      have := nodup_small n l h2 (fun x hx => by
        have h3 : outB n x = false := by
          cases he : outB n x with
          | false => rfl
          | true => exact absurd (List.any_eq_true.2 ⟨x, hx, he⟩) h1
        simp [outB] at h3
        omega)
      omega
    · omega
section
variable {H : Type} {enc : TypeId × Value → H} {W W' : World}
theorem sl_ints_long {n c : Nat} {a : Option Addr} {d : DataW H} {p : List MemPlace} (h : DataW.Trod enc Tryz.prog W 0 (fun _ => true) true 26 (.slice a n c) d p) :
    n ≤ 9223372036854775807 ∧ ∃ l, l.length = n ∧ SlL encI 1 W W.heap.size (.slice a n c) l ∧ ∀ x ∈ l, (Lit.int .i64 x).wf = true := by
  obtain ⟨fuel, hf⟩ := h
  rcases open_ints Tryz.underlying26 Tryz.underlying3 (by kernel_rfl) hf with ⟨hcs, _⟩ | ⟨a', len, cap, zs, hcs, _, hl, hm, hz, _, hcell, hwf⟩
  · simp [Value.cells] at hcs
    obtain ⟨rfl, rfl, rfl⟩ := hcs
    exact ⟨by omega, [], rfl, SlL.nil, by simp⟩
  · simp [Value.cells] at hcs
    obtain ⟨rfl, rfl, rfl⟩ := hcs
    simp only [if_true] at hz
    refine ⟨by unfold maxLen at hm; omega, zs.take n, by simp; omega, ?_, fun x hx => hwf x (List.mem_of_mem_take hx)⟩
    have hlen : (zs.take n).length = n := by simp; omega
    refine ⟨some a', c, by rw [hlen], by unfold maxLen at hm; omega, fun h0 => ?_⟩
    rw [hlen] at h0
    have h00 := hcell 0 (by omega)
    obtain ⟨b, off, spot⟩ := a'
    have hs2 : spot = none := by simpa [Addr.add] using World.cell?_spot h00
    subst hs2
    refine ⟨b, off, rfl, ?_, fun i hi j u hu => ?_⟩
    · exact World.block_lt_of_cell? _ _ h00
    · have hi' : i < zs.length := by simp at hi; omega
      have := hcell i hi'
      match j, hu with
      | 0, hu =>
        simp [encI] at hu
        rw [add_plain] at this
        rw [Nat.mul_one, Nat.add_zero, this, ← hu, List.getD_eq_getElem?_getD, List.getElem?_eq_getElem hi']
        simp
end
set_option maxHeartbeats 1000000 in
theorem ckNums30_long (v : Value) (l : List Int) (n : Int) (w : World) (hv : SlL encI 1 w w.heap.size v l) : Calls Tryz.prog 6 #[v, .int .i64 n] w (Ret (.int .i64 (ckNums l n)) w) := by
  obtain ⟨a, c, rfl, hlen, hA⟩ := hv
  have HA := Lib.hid hA
  clear hA
  obtain ⟨R, hR⟩ : ∃ R, ckNums l n = R := ⟨_, rfl⟩
  rw [hR]
  have HR := Lib.hid hR
  clear hR
  go_enter Tryz.func6, Tryz.ntmps6
  go_wp2_with fail
  go_loop [5] (fun i => ∃ k : Nat, k ≤ l.length ∧ i = .int .i64 k ∧ (l.take k).any (outB n) = false) (fun i => l.length - (intOf i).toNat)
  case atStart => exact ⟨0, by omega, rfl, by simp⟩
  case round =>
    obtain ⟨k, hk, rfl, hrel⟩ := hrel
    have HN := Lib.hid hrel
    clear hrel
    by_cases hlt : k < l.length
    · obtain ⟨b, off, rfl, hbb, hcells⟩ := HA.out (by omega)
      have hd := Lib.hid (any_take_snoc l (outB n) k _ (List.getElem?_eq_getElem hlt))
      have hm := Lib.hid (List.getElem_mem hlt)
      have c0 := (hcells k hlt).c1
      rw [Nat.mul_one] at c0
      clear hcells HA
      generalize l[k] = y at *
      by_cases h2 : y < 0
      · go_wp2_with fail
        go_ret
        exact Ret.mk (by rw [← HR.out, ckNums_10 (List.any_eq_true.2 ⟨y, hm.out, by simp [outB, h2]⟩)]; rfl) (Below.refl _ _)
      · by_cases h3 : n ≤ y
        · go_wp2_with fail
          go_ret
          exact Ret.mk (by rw [← HR.out, ckNums_10 (List.any_eq_true.2 ⟨y, hm.out, by simp [outB, h3]⟩)]; rfl) (Below.refl _ _)
        · have e := Lib.hid (show outB n y = false by simp [outB]; omega)
          go_wp2_with fail
          go_round
          case rel => exact ⟨k + 1, by omega, by go_num, by rw [hd.out, HN.out, e.out]; rfl⟩
          case measure => simp [intOf]; omega
    · obtain rfl : l.length = k := by omega
      have HO : Hid (l.any (outB n) = false) := by have := HN.out; rw [List.take_length] at this; exact this
      clear HN
      go_wp2_with fail
      go_loopw [6] (fun i wr => ∃ k : Nat, k ≤ l.length ∧ i = .int .i64 k ∧ Below w.heap.size w wr ∧ (l.take k).Nodup) (fun i _ => l.length - (intOf i).toNat)
      case atStart => exact ⟨0, by omega, rfl, Below.refl _ _, by simp⟩
      case round =>
        obtain ⟨i, hi, rfl, hbe, hnd⟩ := hrel
        have HN := Lib.hid hnd
        clear hnd
        by_cases hlt : i < l.length
        · obtain ⟨b, off, rfl, hbb, hcells⟩ := HA.out (by omega)
          have HC := Lib.hid hcells
          clear hcells
          clear HA
          go_wp2_with fail
          obtain ⟨wo, hwo⟩ : ∃ wo : World, wo = wr := ⟨_, rfl⟩
          subst hwo
          go_loopw [7] (fun j wr => ∃ k : Nat, k ≤ i ∧ j = .int .i64 k ∧ Below w.heap.size w wr ∧ ∀ m (_ : m < k) (h2 : m < l.length), l[i] ≠ l[m]) (fun j _ => i - (intOf j).toNat)
          case atStart => exact ⟨0, by omega, rfl, hbe, fun m h _ => by omega⟩
          case round =>
            obtain ⟨k, hk, rfl, hbe2, hne⟩ := hrel
            have HE := Lib.hid hne
            clear hne
            by_cases hki : k < i
            · have c0 := ((HC.out i hlt).below hbe2 hbb).c1
              have c1 := ((HC.out k (by omega)).below hbe2 hbb).c1
              rw [Nat.mul_one] at c0 c1
              have hz := hbe2.size
              have hz1 : b < wr.heap.size := by omega
              have hkl : k < l.length := by omega
              have hdup := Lib.hid (@dup_at l i k hlt hki)
              have hst := Lib.hid (show ∀ m (_ : m < k + 1) (h2 : m < l.length), l[i] ≠ l[k] → l[i] ≠ l[m] from fun m h h2 hn => by
                have hmk := h
                by_cases hm : m = k
                · subst hm; exact hn
                · exact HE.out m (by omega) h2)
              generalize hx : l[i] = x at *
              generalize hy : l[k] = y at *
              by_cases h2 : x = y
              · go_wp2_with fail
                refine wp_region_later (by kernel_rfl) (by kernel_rfl) ?_
                repeat go_big_quiet_step (fail)
                refine wpQuiet_nil ?_
                rintro w2 ⟨⟨_, hb2⟩, rfl⟩
                go_wp2_with fail
                go_ret
                exact Ret.mk (by rw [← HR.out, ckNums_9 HO.out (hdup.out h2)]; rfl) (hbe2.trans (hb2.mono hbe2.size))
              · have h2' := beq_eq_false_iff_ne.2 h2
                go_wp2_with fail
                refine wp_region_later (by kernel_rfl) (by kernel_rfl) ?_
                repeat go_big_quiet_step (fail)
                refine wpQuiet_nil ?_
                rintro w2 ⟨⟨_, hb2⟩, rfl⟩
                go_wp2_with fail
                go_roundw
                case rel => exact ⟨k + 1, by omega, by go_num, hbe2.trans (hb2.mono hbe2.size), fun m h h3 => hst.out m h h3 h2⟩
                case measure => simp [intOf]; omega
            · obtain rfl : k = i := by omega
              go_wp2_with fail
              go_roundw
              case rel => exact ⟨k + 1, by omega, by go_num, hbe2, (nodup_snoc l k hlt).2 ⟨HN.out, fun hm => by
                obtain ⟨m, hm1, hm2⟩ := List.mem_take_iff_getElem.1 hm
                exact HE.out m (by omega) (by omega) hm2.symm⟩⟩
              case measure => simp [intOf]; omega
        · obtain rfl : l.length = i := by omega
          go_wp2_with fail
          go_ret
          exact Ret.mk (by rw [← HR.out, ckNums_0 HO.out (by have := HN.out; rwa [List.take_length] at this)]; rfl) hbe
end Go.Proofs.YtflchbejjofppaaGreatDoor
/- Walks: the law TopChanges where it only calls routeScales: books that are too big or do not check. -/
namespace Go.Proofs.YtflchbejjofppaaGreatDoor.Nu
open Go Go.Proofs Go.RowKit Go.Proofs.YtflchbejjofppaaGreatDoor
set_option maxRecDepth 100000 in
set_option maxHeartbeats 1000000 in
theorem changes3_big (w : World) (hw : TbR w) (a1 a2 a3 : Option Addr) (n1 n2 n3 c1 c2 c3 : Nat) (h1 : n1 ≤ 9223372036854775807) (h2 : n2 ≤ 9223372036854775807) (h : 6 < n1 ∨ 8 < n2) :
    Calls Tryz.prog 3 #[.agg #[.slice a1 n1 c1, .slice a2 n2 c2], .slice a3 n3 c3] w (Ret (.bool true) w) := by
  have HR := Lib.hid (fun (w1 : World) (hb : Below w.heap.size w w1) => routeScales7 w1 (hw.later hb))
  have HB := Lib.hid ((Below.refl w.heap.size w).alloc (Nat.le_refl _) (.cells #[.slice a1 n1 c1, .slice a2 n2 c2] 25))
  have HX := Lib.hid (Box.new w #[.slice a1 n1 c1, .slice a2 n2 c2] 25)
  obtain ⟨x0, x1, xf, xz⟩ := HX.out.v2
  by_cases h6 : 6 < n1
  · have d1 : decide (6 < n1) = true := decide_eq_true h6
    have d1' : decide ((6 : Int) < (n1 : Int)) = true := decide_eq_true (by omega)
    go_enter Tryz.func3, Tryz.ntmps3
    go_wp2_with fail
    refine (HR.out _ HB.out).mono ?_
    rintro e4 w4 ⟨rfl, hb⟩
    replace HB := Lib.hid (HB.out.trans (hb.mono HB.out.size))
    replace HX := Lib.hid (HX.out.later hb)
    clear hb x0 x1 xf xz
    obtain ⟨x0, x1, xf, xz⟩ := HX.out.v2
    go_wp2_with fail
    go_ret
    exact ⟨rfl, HB.out⟩
  · have h8 : 8 < n2 := by omega
    have d1 : decide (6 < n1) = false := decide_eq_false h6
    have d1' : decide ((6 : Int) < (n1 : Int)) = false := decide_eq_false (by omega)
    have d2 : decide (8 < n2) = true := decide_eq_true h8
    have d2' : decide ((8 : Int) < (n2 : Int)) = true := decide_eq_true (by omega)
    go_enter Tryz.func3, Tryz.ntmps3
    go_wp2_with fail
    refine (HR.out _ HB.out).mono ?_
    rintro e4 w4 ⟨rfl, hb⟩
    replace HB := Lib.hid (HB.out.trans (hb.mono HB.out.size))
    replace HX := Lib.hid (HX.out.later hb)
    clear hb x0 x1 xf xz
    obtain ⟨x0, x1, xf, xz⟩ := HX.out.v2
    go_wp2_with fail
    go_ret
    exact ⟨rfl, HB.out⟩
set_option maxRecDepth 100000 in
set_option maxHeartbeats 1000000 in
theorem changes3_bad (w : World) (hw : TbR w) (a1 a2 a3 : Option Addr) (n1 n2 n3 c1 c2 c3 : Nat) (b : Bk) (ps : List Int) (h1 : n1 ≤ 6) (h2 : n2 ≤ 8) (hl : b.st.length = n1) (hb : BkR w w.heap.size (.slice a1 n1 c1) (.slice a2 n2 c2) b) (hs : SlL encI 1 w w.heap.size (.slice a3 n3 c3) ps) (h : ckBook b ≠ 0 ∨ ckNums ps b.st.length ≠ 0) :
    Calls Tryz.prog 3 #[.agg #[.slice a1 n1 c1, .slice a2 n2 c2], .slice a3 n3 c3] w (Ret (.bool true) w) := by
  have HR := Lib.hid (fun (w1 : World) (hb : Below w.heap.size w w1) => routeScales7 w1 (hw.later hb))
  have HC := Lib.hid (fun (w1 : World) (hbe : Below w.heap.size w w1) => ckBook24 (.slice a1 n1 c1) (.slice a2 n2 c2) b w1 (hb.later hbe))
  have HN := Lib.hid (fun (w1 : World) (hbe : Below w.heap.size w w1) => ckNums30_long (.slice a3 n3 c3) ps b.st.length w1 (hs.later hbe))
  rw [hl] at h HN
  have d1 : decide (6 < n1) = false := decide_eq_false (by omega)
  have d1' : decide ((6 : Int) < (n1 : Int)) = false := decide_eq_false (by omega)
  have d2 : decide (8 < n2) = false := decide_eq_false (by omega)
  have d2' : decide ((8 : Int) < (n2 : Int)) = false := decide_eq_false (by omega)
  generalize ckBook b = x at *
  generalize ckNums ps n1 = y at *
  clear hl hb hs
  have HB := Lib.hid ((Below.refl w.heap.size w).alloc (Nat.le_refl _) (.cells #[.slice a1 n1 c1, .slice a2 n2 c2] 25))
  have HX := Lib.hid (Box.new w #[.slice a1 n1 c1, .slice a2 n2 c2] 25)
  obtain ⟨x0, x1, xf, xz⟩ := HX.out.v2
  by_cases hx : x = 0
  · have hy : y ≠ 0 := by omega
    have d3 : (x != 0) = false := by rw [hx]; rfl
    have d4 : (y != 0) = true := bne_iff_ne.2 hy
    clear h hx hy
    go_enter Tryz.func3, Tryz.ntmps3
    go_wp2_with fail
    refine (HC.out _ HB.out).mono ?_
    rintro e4 w4 ⟨rfl, hb⟩
    replace HB := Lib.hid (HB.out.trans (hb.mono HB.out.size))
    replace HX := Lib.hid (HX.out.later hb)
    clear hb x0 x1 xf xz
    obtain ⟨x0, x1, xf, xz⟩ := HX.out.v2
    go_wp2_with fail
    refine (HN.out _ HB.out).mono ?_
    rintro e5 w5 ⟨rfl, hb⟩
    replace HB := Lib.hid (HB.out.trans (hb.mono HB.out.size))
    replace HX := Lib.hid (HX.out.later hb)
    clear hb x0 x1 xf xz
    obtain ⟨x0, x1, xf, xz⟩ := HX.out.v2
    go_wp2_with fail
    refine (HR.out _ HB.out).mono ?_
    rintro e6 w6 ⟨rfl, hb⟩
    replace HB := Lib.hid (HB.out.trans (hb.mono HB.out.size))
    replace HX := Lib.hid (HX.out.later hb)
    clear hb x0 x1 xf xz
    obtain ⟨x0, x1, xf, xz⟩ := HX.out.v2
    go_wp2_with fail
    go_ret
    exact ⟨rfl, HB.out⟩
  · have d3 : (x != 0) = true := bne_iff_ne.2 hx
    clear h hx
    go_enter Tryz.func3, Tryz.ntmps3
    go_wp2_with fail
    refine (HC.out _ HB.out).mono ?_
    rintro e4 w4 ⟨rfl, hb⟩
    replace HB := Lib.hid (HB.out.trans (hb.mono HB.out.size))
    replace HX := Lib.hid (HX.out.later hb)
    clear hb x0 x1 xf xz
    obtain ⟨x0, x1, xf, xz⟩ := HX.out.v2
    go_wp2_with fail
    refine (HR.out _ HB.out).mono ?_
    rintro e6 w6 ⟨rfl, hb⟩
    replace HB := Lib.hid (HB.out.trans (hb.mono HB.out.size))
    replace HX := Lib.hid (HX.out.later hb)
    clear hb x0 x1 xf xz
    obtain ⟨x0, x1, xf, xz⟩ := HX.out.v2
    go_wp2_with fail
    go_ret
    exact ⟨rfl, HB.out⟩
end Go.Proofs.YtflchbejjofppaaGreatDoor.Nu
/- Walks: the law TopChanges at a book without an assignment. -/
namespace Go.Proofs.YtflchbejjofppaaGreatDoor.Nu
open Go Go.Proofs Go.RowKit Go.Proofs.YtflchbejjofppaaGreatDoor
set_option maxRecDepth 100000 in
set_option maxHeartbeats 1000000 in
theorem changes3_con (w : World) (hw : TbR w) (a1 a2 a3 : Option Addr) (n1 n2 n3 c1 c2 c3 : Nat) (b : Bk) (ps : List Int) (h1 : n1 ≤ 6) (h2 : n2 ≤ 8) (hl : b.st.length = n1) (hb : BkR w w.heap.size (.slice a1 n1 c1) (.slice a2 n2 c2) b) (hs : Sl encI 1 w w.heap.size (.slice a3 n3 c3) ps) (hk : ckBook b = 0) (hn : ckNums ps b.st.length = 0) (hc : ¬ Con b) :
    Calls Tryz.prog 3 #[.agg #[.slice a1 n1 c1, .slice a2 n2 c2], .slice a3 n3 c3] w (Ret (.bool true) w) := by
  have hch : chE b ps = 0 := by unfold chE; rw [hk, hn]; rfl
  have HR := Lib.hid (fun (w1 : World) (hb : Below w.heap.size w w1) => routeScales7 w1 (hw.later hb))
  have HC := Lib.hid (fun (w1 : World) (hbe : Below w.heap.size w w1) => (by have h := ckBook24 (.slice a1 n1 c1) (.slice a2 n2 c2) b w1 (hb.later hbe); rwa [hk] at h : Calls Tryz.prog 5 #[.agg #[.slice a1 n1 c1, .slice a2 n2 c2]] w1 (Ret (.int .i64 0) w1)))
  have HN := Lib.hid (fun (w1 : World) (hbe : Below w.heap.size w w1) => (by have h := ckNums30 (.slice a3 n3 c3) ps b.st.length w1 (hs.later hbe); rwa [hn, hl] at h : Calls Tryz.prog 6 #[.slice a3 n3 c3, .int .i64 n1] w1 (Ret (.int .i64 0) w1)))
  have HT := Lib.hid (fun (w1 : World) (hbe : Below w.heap.size w w1) => (((tighten35 w1 (.slice a1 n1 c1) (.slice a2 n2 c2) b (hb.later hbe)).mono fun e w' hp => by
    obtain ⟨hbb, h | h | h⟩ := hp
    · exact absurd hk h.1
    · exact ⟨h.2.2, hbb⟩
    · exact absurd h.2.1 hc) : Calls Tryz.prog 8 #[.agg #[.slice a1 n1 c1, .slice a2 n2 c2]] w1 (Ret (.tuple #[.slice none 0 0, .int .i64 15]) w1)))
  have HG := Lib.hid (fun (w1 : World) (hbe : Below w.heap.size w w1) => (((change29 w1 (.slice a1 n1 c1) (.slice a2 n2 c2) (.slice a3 n3 c3) b ps (hb.later hbe) (hs.later hbe)).mono fun e w' hp => by
    obtain ⟨hbb, h | h | h⟩ := hp
    · exact absurd hch h.1
    · exact ⟨h.2.2, hbb⟩
    · exact absurd h.2.1 hc) : Calls Tryz.prog 9 #[.agg #[.slice a1 n1 c1, .slice a2 n2 c2], .slice a3 n3 c3] w1 (Ret (.tuple #[.agg #[.int .i64 0, .int .i64 0], .int .i64 15]) w1)))
  have d1 : decide (6 < n1) = false := decide_eq_false (by omega)
  have d1' : decide ((6 : Int) < (n1 : Int)) = false := decide_eq_false (by omega)
  have d2 : decide (8 < n2) = false := decide_eq_false (by omega)
  have d2' : decide ((8 : Int) < (n2 : Int)) = false := decide_eq_false (by omega)
  clear hl hb hs hk hn hc hch hw
  have HB := Lib.hid ((Below.refl w.heap.size w).alloc (Nat.le_refl _) (.cells #[.slice a1 n1 c1, .slice a2 n2 c2] 25))
  have HX := Lib.hid (Box.new w #[.slice a1 n1 c1, .slice a2 n2 c2] 25)
  obtain ⟨x0, x1, xf, xz⟩ := HX.out.v2
  go_enter Tryz.func3, Tryz.ntmps3
  go_wp2_with fail
  refine (HC.out _ HB.out).mono ?_
  rintro e4 w4 ⟨rfl, hb⟩
  replace HB := Lib.hid (HB.out.trans (hb.mono HB.out.size))
  replace HX := Lib.hid (HX.out.later hb)
  clear hb x0 x1 xf xz
  obtain ⟨x0, x1, xf, xz⟩ := HX.out.v2
  go_wp2_with fail
  refine (HN.out _ HB.out).mono ?_
  rintro e5 w5 ⟨rfl, hb⟩
  replace HB := Lib.hid (HB.out.trans (hb.mono HB.out.size))
  replace HX := Lib.hid (HX.out.later hb)
  clear hb x0 x1 xf xz
  obtain ⟨x0, x1, xf, xz⟩ := HX.out.v2
  go_wp2_with fail
  refine (HT.out _ HB.out).mono ?_
  rintro e6 w6 ⟨rfl, hb⟩
  replace HB := Lib.hid (HB.out.trans (hb.mono HB.out.size))
  replace HX := Lib.hid (HX.out.later hb)
  clear hb x0 x1 xf xz
  obtain ⟨x0, x1, xf, xz⟩ := HX.out.v2
  go_wp2_with fail
  refine (HG.out _ HB.out).mono ?_
  rintro e7 w7 ⟨rfl, hb⟩
  replace HB := Lib.hid (HB.out.trans (hb.mono HB.out.size))
  replace HX := Lib.hid (HX.out.later hb)
  clear hb x0 x1 xf xz
  obtain ⟨x0, x1, xf, xz⟩ := HX.out.v2
  have HBA := Lib.hid (HB.out.alloc HB.out.size (.cells #[.int .i64 0, .int .i64 0] 34))
  go_wp2_with fail
  refine (HR.out _ HBA.out).mono ?_
  rintro e8 w8 ⟨rfl, hb⟩
  have HB8 := Lib.hid (HBA.out.trans (hb.mono HBA.out.size))
  clear hb
  go_wp2_with fail
  go_ret
  exact ⟨rfl, HB8.out⟩
end Go.Proofs.YtflchbejjofppaaGreatDoor.Nu
/- Plain: TopChanges: the sums' bounds. -/
namespace Go.Proofs.YtflchbejjofppaaGreatDoor
open Go Go.Proofs
theorem sumC_ok {b : Bk} {rs : List Rg} (hok : OkBk b) (hT : Tight b rs) (hl : rs.length = b.ts.length) (c : Nat → Bool) : ∀ k, k ≤ b.ts.length →
    0 ≤ sumC c Rg.lo rs k ∧ sumC c Rg.lo rs k ≤ sumC c Rg.hi rs k ∧ sumC c Rg.hi rs k ≤ 999999999 * (k : Int)
  | 0, _ => by simp [sumC, sumN]
  | k + 1, hk => by
    obtain ⟨h1, h2, h3⟩ := sumC_ok hok hT hl c k (by omega)
    obtain ⟨g1, g2, g3⟩ := tight_ok hok hT (k := k) (by omega) hl
    rw [sumC_succ, sumC_succ]
    by_cases h : c k = true
    · rw [if_pos h, if_pos h]; omega
    · rw [if_neg h, if_neg h]; omega
theorem crs_le (b : Bk) (ps : List Int) : ∀ k, crs b ps k ≤ k
  | 0 => Nat.le_refl _
  | k + 1 => by have := crs_le b ps k; unfold crs; split <;> omega
theorem onl_le (b : Bk) (ps : List Int) : ∀ k, -1 ≤ onl b ps k ∧ onl b ps k ≤ k
  | 0 => by simp [onl]
  | k + 1 => by
    have := onl_le b ps k
    unfold onl
    split
    · omega
    · split <;> omega
theorem together_gain {b : Bk} {ps : List Int} {lo hi : Int} (hok : OkBk b) (hn : ckNums ps b.st.length = 0) (h : Together b.st.length (arcsOf b) (idx b.ts.length ps) lo hi) : Span b (fun ms => gain ps b.ts ms) lo hi :=
  together_span hok (ckNums_ok hn).2 (ckNums_ok hn).1 h
structure ChS (b : Bk) (ps : List Int) (rs : List Rg) (lo hi : Int) : Prop where
  le : lo ≤ hi
  lo0 : -8000000000 ≤ lo
  hi0 : hi ≤ 8000000000
  gain : ∀ ms, IsAsg b ms → lo ≤ gain ps b.ts ms ∧ gain ps b.ts ms ≤ hi
theorem chS_of {b : Bk} {ps : List Int} {rs : List Rg} (hok : OkBk b) (hT : Tight b rs) (hl : rs.length = b.ts.length) (h8 : b.ts.length ≤ 8) :
    ChS b ps rs (sumC (inn b ps) Rg.lo rs b.ts.length - sumC (oun b ps) Rg.hi rs b.ts.length) (sumC (inn b ps) Rg.hi rs b.ts.length - sumC (oun b ps) Rg.lo rs b.ts.length) := by
  obtain ⟨a1, a2, a3⟩ := sumC_ok hok hT hl (inn b ps) b.ts.length (Nat.le_refl _)
  obtain ⟨b1, b2, b3⟩ := sumC_ok hok hT hl (oun b ps) b.ts.length (Nat.le_refl _)
  exact ⟨by omega, by omega, by omega, fun ms ha => gain_within hok hT hl ha⟩
end Go.Proofs.YtflchbejjofppaaGreatDoor
/- Walks: the reference's gcd, Of. -/
namespace Go.Proofs.YtflchbejjofppaaGreatDoor.Nu
open Go Go.Proofs Go.RowKit Go.Proofs.YtflchbejjofppaaGreatDoor
set_option maxRecDepth 100000 in
set_option maxHeartbeats 4000000 in
theorem gcd158 (w : World) (a b : Nat) (ha : a ≤ 9223372036854775807) (hb : b ≤ 9223372036854775807) : Calls Tryz.prog 158 #[.int .i64 (a : Int), .int .i64 (b : Int)] w (Ret (.int .i64 ((Nat.gcd a b : Nat) : Int)) w) := by
  obtain ⟨G, hG⟩ : ∃ G, Nat.gcd a b = G := ⟨_, rfl⟩
  rw [hG]
  go_enter Tryz.func158, Tryz.ntmps158
  go_wp2_with fail
  go_loopw [0, 1] (fun x y wr => ∃ m k : Nat, x = .int .i64 (m : Int) ∧ y = .int .i64 (k : Int) ∧ m ≤ 9223372036854775807 ∧ k ≤ 9223372036854775807 ∧ Nat.gcd m k = G ∧ Below w.heap.size w wr) (fun _ y _ => (intOf y).toNat)
  case atStart => exact ⟨a, b, rfl, rfl, ha, hb, hG, Below.refl _ _⟩
  case round =>
    obtain ⟨m, k, rfl, rfl, hm, hk, hg, hbe⟩ := hrel
    have HB := Lib.hid hbe
    have HG := Lib.hid hg
    clear hbe hg hG ha hb
    by_cases h0 : k = 0
    · subst h0
      have e : m = G := by have := HG.out; rwa [Nat.gcd_zero_right] at this
      subst e
      go_wp2_with fail
      go_ret
      exact ⟨rfl, HB.out⟩
    · have HR := Lib.hid (show Nat.gcd k (m % k) = G by rw [← HG.out, Nat.gcd_comm m k, Nat.gcd_rec k m, Nat.gcd_comm])
      have hlt := Nat.mod_lt m (show 0 < k by omega)
      have d0 : decide (0 < k) = true := decide_eq_true (by omega)
      have d1 : decide ((0 : Int) < (k : Int)) = true := decide_eq_true (by omega)
      have d2 : ((k : Int) == 0) = false := beq_eq_false_iff_ne.2 (by omega)
      have km : (m : Int).tmod (k : Int) = ((m % k : Nat) : Int) := by rw [Int.tmod_eq_emod_of_nonneg (by omega)]; exact (Int.natCast_emod m k).symm
      generalize m % k = r at *
      have HK := Lib.hid (show 0 < k by omega)
      go_wp2_with fail
      refine wp_region_later (by kernel_rfl) (by kernel_rfl) ?_
      repeat go_big_quiet_step (fail)
      refine wpQuiet_nil ?_
      rintro w2 ⟨⟨_, hb2⟩, rfl⟩
      replace HB := Lib.hid (HB.out.trans (hb2.mono HB.out.size))
      clear hb2
      go_wp2_with fail
      go_roundw
      case rel => exact ⟨k, r, rfl, rfl, hk, by omega, HR.out, HB.out⟩
      case measure => simp [intOf]; omega
end Go.Proofs.YtflchbejjofppaaGreatDoor.Nu
