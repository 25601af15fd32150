/- Lemmas on the way to the laws (part 17): Va Rd Sa Sb Sc Sd Se -/
import Derived.Test.YtlakcghdehdeiaaLib14
import Derived.Test.YtlakcghdehdeiaaLib02
import Derived.Test.YtlakcghdehdeiaaLib09
import Derived.RegionTactic
import Derived.BigRegion
import Derived.Test.YtlakcghdehdeiaaLib12
set_option linter.unusedVariables false
set_option linter.unusedSimpArgs false

/- Lists that are longer than my readings of slices allow: CheckNumbers on them. -/
namespace Go.Proofs.Ytlakcghdehdeiaa
open Go Go.Proofs Go.RowKit Go.ChangeShapes Go.WideShapes Go.ChangeAt Go.Joins Go.Deep

/-- A slice of any length that reads as a list. -/
def SlL {α : Type} (f : α → List Value) (sz : Nat) (w : World) (B : Nat) (v : Value) (l : List α) : Prop :=
  ∃ a c, v = .slice a l.length c ∧ l.length ≤ 9223372036854775807 ∧ (0 < l.length → ∃ b off, a = some ⟨b, off, none⟩ ∧ b < B ∧
    ∀ i (h : i < l.length), At w b (off + i * sz) (f l[i]))
theorem SlL.below {α : Type} {f : α → List Value} {sz : Nat} {w w' : World} {B : Nat} {v : Value} {l : List α} (h : SlL f sz w B v l) (hb : Below B w w') : SlL f sz w' B v l := by
  obtain ⟨a, c, rfl, hl, h⟩ := h
  refine ⟨a, c, rfl, hl, fun h0 => ?_⟩
  obtain ⟨b, off, rfl, hB, hc⟩ := h h0
  exact ⟨b, off, rfl, hB, fun i hi => (hc i hi).below hb hB⟩
theorem SlL.later {α : Type} {f : α → List Value} {sz : Nat} {w w' : World} {v : Value} {l : List α} (h : SlL f sz w w.heap.size v l) (hb : Below w.heap.size w w') : SlL f sz w' w'.heap.size v l := by
  obtain ⟨a, c, rfl, hl, h⟩ := h
  refine ⟨a, c, rfl, hl, fun h0 => ?_⟩
  obtain ⟨b, off, rfl, hB, hc⟩ := h h0
  exact ⟨b, off, rfl, Nat.lt_of_lt_of_le hB hb.size, fun i hi => (hc i hi).below hb hB⟩
theorem SlL.nil {α : Type} {f : α → List Value} {sz : Nat} {w : World} {B : Nat} {a : Option Addr} {c : Nat} : SlL f sz w B (.slice a 0 c) ([] : List α) :=
  ⟨a, c, rfl, by simp, fun h => by simp at h⟩
theorem SlL.short {α : Type} {f : α → List Value} {sz : Nat} {w : World} {B : Nat} {v : Value} {l : List α} (h : SlL f sz w B v l) (hl : l.length ≤ 1000000000) : Sl f sz w B v l := by
  obtain ⟨a, c, e, _, hA⟩ := h
  exact ⟨a, c, e, hl, hA⟩

theorem nodup_small : ∀ (n : Nat) (l : List Int), l.Nodup → (∀ x ∈ l, 0 ≤ x ∧ x < n) → l.length ≤ n
  | 0, l, _, h => by
    cases l with
    | nil => simp
    | cons x t => have := h x (by simp); omega
  | n + 1, l, hn, h => by
    by_cases hm : (n : Int) ∈ l
    · have h1 := nodup_small n (l.erase n) (hn.erase _) (fun x hx => by
        have h2 := h x (List.mem_of_mem_erase hx)
        have h3 : x ≠ n := fun e => by subst e; exact (List.Nodup.mem_erase_iff hn).1 hx |>.1 rfl
        omega)
      have := List.length_erase_of_mem hm
      omega
    · have := nodup_small n l hn (fun x hx => by
        have h2 := h x hx
        have h3 : x ≠ n := fun e => by subst e; exact hm hx
        omega)
      omega
theorem ckNums_long {l : List Int} {n : Nat} (h : n < l.length) : ckNums l n ≠ 0 := by
  intro h0
  unfold ckNums at h0
  split at h0
  · omega
  · split at h0
    · rename_i h1 h2
      have := nodup_small n l h2 (fun x hx => by
        have h3 : outB n x = false := by
          cases he : outB n x with
          | false => rfl
          | true => exact absurd (List.any_eq_true.2 ⟨x, hx, he⟩) h1
        simp [outB] at h3
        omega)
      omega
    · omega
section
variable {H : Type} {enc : TypeId × Value → H} {W W' : World}
theorem sl_ints_long {n c : Nat} {a : Option Addr} {d : DataW H} {p : List MemPlace} (h : DataW.Trod enc Try.prog W 0 (fun _ => true) true 22 (.slice a n c) d p) :
    n ≤ 9223372036854775807 ∧ ∃ l, l.length = n ∧ SlL encI 1 W W.heap.size (.slice a n c) l ∧ ∀ x ∈ l, (Lit.int .i64 x).wf = true := by
  obtain ⟨fuel, hf⟩ := h
  rcases open_ints Try.underlying22 Try.underlying3 (by kernel_rfl) hf with ⟨hcs, _⟩ | ⟨a', len, cap, zs, hcs, _, hl, hm, hz, _, hcell, hwf⟩
  · simp [Value.cells] at hcs
    obtain ⟨rfl, rfl, rfl⟩ := hcs
    exact ⟨by omega, [], rfl, SlL.nil, by simp⟩
  · simp [Value.cells] at hcs
    obtain ⟨rfl, rfl, rfl⟩ := hcs
    simp only [if_true] at hz
    refine ⟨by unfold maxLen at hm; omega, zs.take n, by simp; omega, ?_, fun x hx => hwf x (List.mem_of_mem_take hx)⟩
    have hlen : (zs.take n).length = n := by simp; omega
    refine ⟨some a', c, by rw [hlen], by unfold maxLen at hm; omega, fun h0 => ?_⟩
    rw [hlen] at h0
    have h00 := hcell 0 (by omega)
    obtain ⟨b, off, spot⟩ := a'
    have hs2 : spot = none := by simpa [Addr.add] using World.cell?_spot h00
    subst hs2
    refine ⟨b, off, rfl, ?_, fun i hi j u hu => ?_⟩
    · exact World.block_lt_of_cell? _ _ h00
    · have hi' : i < zs.length := by simp at hi; omega
      have := hcell i hi'
      match j, hu with
      | 0, hu =>
        simp [encI] at hu
        rw [add_plain] at this
        rw [Nat.mul_one, Nat.add_zero, this, ← hu, List.getD_eq_getElem?_getD, List.getElem?_eq_getElem hi']
        simp
end
set_option maxHeartbeats 1000000 in
theorem ckNums30_long (v : Value) (l : List Int) (n : Int) (w : World) (hv : SlL encI 1 w w.heap.size v l) : Calls Try.prog 30 #[v, .int .i64 n] w (Ret (.int .i64 (ckNums l n)) w) := by
  obtain ⟨a, c, rfl, hlen, hA⟩ := hv
  have HA := Lib.hid hA
  clear hA
  obtain ⟨R, hR⟩ : ∃ R, ckNums l n = R := ⟨_, rfl⟩
  rw [hR]
  have HR := Lib.hid hR
  clear hR
  go_enter Try.func30, Try.ntmps30
  go_wp2_with fail
  go_loop [5] (fun i => ∃ k : Nat, k ≤ l.length ∧ i = .int .i64 k ∧ (l.take k).any (outB n) = false) (fun i => l.length - (intOf i).toNat)
  case atStart => exact ⟨0, by omega, rfl, by simp⟩
  case round =>
    obtain ⟨k, hk, rfl, hrel⟩ := hrel
    have HN := Lib.hid hrel
    clear hrel
    by_cases hlt : k < l.length
    · obtain ⟨b, off, rfl, hbb, hcells⟩ := HA.out (by omega)
      have hd := Lib.hid (any_take_snoc l (outB n) k _ (List.getElem?_eq_getElem hlt))
      have hm := Lib.hid (List.getElem_mem hlt)
      have c0 := (hcells k hlt).c1
      rw [Nat.mul_one] at c0
      clear hcells HA
      generalize l[k] = y at *
      by_cases h2 : y < 0
      · go_wp2_with fail
        go_ret
        exact Ret.mk (by rw [← HR.out, ckNums_10 (List.any_eq_true.2 ⟨y, hm.out, by simp [outB, h2]⟩)]; rfl) (Below.refl _ _)
      · by_cases h3 : n ≤ y
        · go_wp2_with fail
          go_ret
          exact Ret.mk (by rw [← HR.out, ckNums_10 (List.any_eq_true.2 ⟨y, hm.out, by simp [outB, h3]⟩)]; rfl) (Below.refl _ _)
        · have e := Lib.hid (show outB n y = false by simp [outB]; omega)
          go_wp2_with fail
          go_round
          case rel => exact ⟨k + 1, by omega, by go_num, by rw [hd.out, HN.out, e.out]; rfl⟩
          case measure => simp [intOf]; omega
    · obtain rfl : l.length = k := by omega
      have HO : Hid (l.any (outB n) = false) := by have := HN.out; rw [List.take_length] at this; exact this
      clear HN
      go_wp2_with fail
      go_loopw [6] (fun i wr => ∃ k : Nat, k ≤ l.length ∧ i = .int .i64 k ∧ Below w.heap.size w wr ∧ (l.take k).Nodup) (fun i _ => l.length - (intOf i).toNat)
      case atStart => exact ⟨0, by omega, rfl, Below.refl _ _, by simp⟩
      case round =>
        obtain ⟨i, hi, rfl, hbe, hnd⟩ := hrel
        have HN := Lib.hid hnd
        clear hnd
        by_cases hlt : i < l.length
        · obtain ⟨b, off, rfl, hbb, hcells⟩ := HA.out (by omega)
          have HC := Lib.hid hcells
          clear hcells
          clear HA
          go_wp2_with fail
          obtain ⟨wo, hwo⟩ : ∃ wo : World, wo = wr := ⟨_, rfl⟩
          subst hwo
          go_loopw [7] (fun j wr => ∃ k : Nat, k ≤ i ∧ j = .int .i64 k ∧ Below w.heap.size w wr ∧ ∀ m (_ : m < k) (h2 : m < l.length), l[i] ≠ l[m]) (fun j _ => i - (intOf j).toNat)
          case atStart => exact ⟨0, by omega, rfl, hbe, fun m h _ => by omega⟩
          case round =>
            obtain ⟨k, hk, rfl, hbe2, hne⟩ := hrel
            have HE := Lib.hid hne
            clear hne
            by_cases hki : k < i
            · have c0 := ((HC.out i hlt).below hbe2 hbb).c1
              have c1 := ((HC.out k (by omega)).below hbe2 hbb).c1
              rw [Nat.mul_one] at c0 c1
              have hz := hbe2.size
              have hz1 : b < wr.heap.size := by omega
              have hkl : k < l.length := by omega
              have hdup := Lib.hid (@dup_at l i k hlt hki)
              have hst := Lib.hid (show ∀ m (_ : m < k + 1) (h2 : m < l.length), l[i] ≠ l[k] → l[i] ≠ l[m] from fun m h h2 hn => by
                have hmk := h
                by_cases hm : m = k
                · subst hm; exact hn
                · exact HE.out m (by omega) h2)
              generalize hx : l[i] = x at *
              generalize hy : l[k] = y at *
              by_cases h2 : x = y
              · go_wp2_with fail
                refine wp_region_later (by kernel_rfl) (by kernel_rfl) ?_
                repeat go_big_quiet_step (fail)
                refine wpQuiet_nil ?_
                rintro w2 ⟨⟨_, hb2⟩, rfl⟩
                go_wp2_with fail
                go_ret
                exact Ret.mk (by rw [← HR.out, ckNums_9 HO.out (hdup.out h2)]; rfl) (hbe2.trans (hb2.mono hbe2.size))
              · have h2' := beq_eq_false_iff_ne.2 h2
                go_wp2_with fail
                refine wp_region_later (by kernel_rfl) (by kernel_rfl) ?_
                repeat go_big_quiet_step (fail)
                refine wpQuiet_nil ?_
                rintro w2 ⟨⟨_, hb2⟩, rfl⟩
                go_wp2_with fail
                go_roundw
                case rel => exact ⟨k + 1, by omega, by go_num, hbe2.trans (hb2.mono hbe2.size), fun m h h3 => hst.out m h h3 h2⟩
                case measure => simp [intOf]; omega
            · obtain rfl : k = i := by omega
              go_wp2_with fail
              go_roundw
              case rel => exact ⟨k + 1, by omega, by go_num, hbe2, (nodup_snoc l k hlt).2 ⟨HN.out, fun hm => by
                obtain ⟨m, hm1, hm2⟩ := List.mem_take_iff_getElem.1 hm
                exact HE.out m (by omega) (by omega) hm2.symm⟩⟩
              case measure => simp [intOf]; omega
        · obtain rfl : l.length = i := by omega
          go_wp2_with fail
          go_ret
          exact Ret.mk (by rw [← HR.out, ckNums_0 HO.out (by have := HN.out; rwa [List.take_length] at this)]; rfl) hbe
end Go.Proofs.Ytlakcghdehdeiaa

/- A region that draws its order, of whose head operations one stores; the others only read, and read the same before and behind the store. -/
namespace Go
open Go.RowKit
section
variable {P : Program} {l : List Oper} {n b : Nat} {ob : Oper} {W : World} {a0 A : Act} {D : Value → World → Prop} {Q : Exit → Act → World → Prop}

theorem storeflow_run (hB : Region.flowB l.toArray n b = true) (hob : l[b]? = some ob)
    (hq : ∀ w, (w = W ∨ ∃ v, D v w) → wpQuiet P l.toArray (fun w' => w' = w) (fun a' => a' = A) (headsOf l n b) a0)
    {W2 : World} (hb : (execOp A.eval ob).run P W = .ok .skip W2) (hD0 : D undef W2)
    (ht : ∀ v w, D v w → wpList P l.toArray Q (l.drop n) (A.put ob.dst v) w) :
    ∀ (f : Nat) (U : List Nat) (listed : Array Bool) (a : Act) (w : World) (v : Value), U.length = f → U.Nodup → (∀ i, i ∈ U ↔ i < n ∧ listed.getD i false = false) →
      CallFlow l.toArray n b ob W a0 A D listed a w v → wpAny P .any l.toArray Q (f + (l.toArray.size - n)) listed a w := by
  simp only [Region.flowB, Bool.and_eq_true, decide_eq_true_eq, List.all_eq_true, List.mem_range] at hB
  obtain ⟨⟨⟨⟨⟨⟨⟨⟨⟨hsel, hn⟩, hbn⟩, hsink⟩, hchain⟩, hseq⟩, hedge⟩, hpair⟩, hguard⟩, hblind⟩ := hB
  have hn' : n ≤ l.length := by have h := hn; rw [List.size_toArray] at h; omega
  have hsz : l.toArray.size = l.length := by simp
  have hget : ∀ i : Nat, l.toArray[i]? = l[i]? := fun i => by simp
  have hselect := Region.noSelect_spec hsel
  have hpw : (headsOf l n b).Pairwise (fun o o' => ∀ t, o.dst = some t → o'.dst ≠ some t) := by
    rw [List.pairwise_iff_getElem]
    intro i j hi hj hij t ht
    obtain ⟨i', h1, h2, h3, h4⟩ := headsOf_from hbn hn' (List.getElem?_eq_getElem hi)
    obtain ⟨j', k1, k2, k3, k4⟩ := headsOf_from hbn hn' (List.getElem?_eq_getElem hj)
    exact Region.flowPair_dst (hpair i' h1 j' k1) (by rw [hget]; exact h3) (by rw [hget]; exact k3) (fun e => by subst e; omega) ht
  have hA := quiet_text _ _ (hq W (.inl rfl)) hpw
  have hAo : ∀ t, (∀ j o, j < n → l.toArray[j]? = some o → j ≠ b → o.dst ≠ some t) → A.tmps[t]? = a0.tmps[t]? := fun t h => hA.1 t fun o ho => by
    obtain ⟨q, hq'⟩ := List.mem_iff_getElem?.1 ho
    obtain ⟨j, h1, h2, h3, _⟩ := headsOf_from hbn hn' hq'
    exact h j o h1 (by rw [hget]; exact h3) h2
  have hAs := hA.2.1
  have hAd := hA.2.2.1
  have hobA : l.toArray[b]? = some ob := by rw [hget]; exact hob
  intro f
  induction f with
  | zero =>
    intro U listed a w vb hU _ hUm hF
    obtain rfl : U = [] := List.eq_nil_of_length_eq_zero hU
    have hall : ∀ i, i < n → listed.getD i false = true := fun i hi => by
      cases h : listed.getD i false with
      | true => rfl
      | false => have := (hUm i).2 ⟨hi, h⟩; simp at this
    have hl : listed = Region.marked l.toArray.size n := by
      apply Array.ext_getElem?
      intro i
      by_cases hi : i < l.toArray.size
      · have hil : i < listed.size := by rw [hF.inv.size]; exact hi
        have e2 : (Region.marked l.toArray.size n)[i]? = some (decide (i < n)) := by
          rw [List.size_toArray] at hi
          unfold Region.marked
          simp [hi]
        rw [e2, Array.getElem?_eq_getElem hil]
        by_cases hin : i < n
        · have := hall i hin
          simp [hil] at this
          simp [this, hin]
        · have := hF.inv.tail i (by omega) hi
          simp [hil] at this
          simp [this, hin]
      · rw [Array.getElem?_eq_none (by rw [hF.inv.size]; omega), Array.getElem?_eq_none (by rw [List.size_toArray] at hi; unfold Region.marked; simp; omega)]
    have hbt := hall b hbn
    have ha : a = A.put ob.dst vb := by
      have htm : a.tmps = (A.put ob.dst vb).tmps := by
        apply Array.ext_getElem?
        intro t
        rw [put_get]
        by_cases hbd : ob.dst = some t
        · rw [if_pos hbd, hF.slotb t hbd, if_pos hbt]
          by_cases h : t < a0.tmps.size
          · rw [Array.getElem?_eq_getElem h, Array.getElem?_eq_getElem (by rw [hAs]; exact h)]; rfl
          · rw [Array.getElem?_eq_none (by omega), Array.getElem?_eq_none (by rw [hAs]; omega)] <;> rfl
        · rw [if_neg hbd]
          by_cases h : ∃ j o, j < n ∧ l.toArray[j]? = some o ∧ o.dst = some t
          · obtain ⟨j, o, h1, h2, h3⟩ := h
            have hjb : j ≠ b := fun e => by subst e; rw [hobA] at h2; cases h2; exact hbd h3
            rw [hF.slot j o t h1 h2 h3 hjb, if_pos (hall j h1)]
          · have h' : ∀ j o, j < n → l.toArray[j]? = some o → o.dst ≠ some t := fun j o h1 h2 h3 => h ⟨j, o, h1, h2, h3⟩
            rw [hF.other t h', hAo t fun j o h1 h2 _ => h' j o h1 h2]
      have hd : a.defers = (A.put ob.dst vb).defers := by rw [put_defers, hAd, hF.defers]
      cases a; simp only at htm hd; cases hX : A.put ob.dst vb; rw [hX] at htm hd; simp only at htm hd; rw [htm, hd]
    rw [ha]
    have hdl : (l.drop n).length = l.toArray.size - n := by simp
    have := wpAny_of_seq (md := .any) (Q' := Q) (ops := l.toArray) (l.drop n) n listed (A.put ob.dst vb) w (fun j => by simp [List.getElem?_drop]) (by rw [hdl, hl]; exact hseq) (ht vb w (hF.wld.1 hbt))
    rw [hdl] at this
    rwa [Nat.zero_add]
  | succ f ih =>
    intro U listed a w vb hU hnd hUm hF
    obtain ⟨i0, hi0, hleast⟩ := exists_least U (fun e => by rw [e] at hU; simp at hU)
    obtain ⟨hi0n, hi0u⟩ := (hUm i0).1 hi0
    have hin : ∀ i, i < n → i < listed.size := fun i hi => by rw [hF.inv.size]; omega
    have hready : i0 ∈ Region.ready .any l.toArray listed := by
      have hlt : i0 < l.toArray.size := by omega
      refine mem_ready.2 ⟨getD_in (hin _ hi0n) hi0u, l.toArray[i0], Array.getElem?_eq_getElem hlt, fun e he hbd => ?_⟩
      have h1 := hedge i0 hi0n
      rw [Array.getElem?_eq_getElem hlt] at h1
      simp only [Array.all_eq_true_iff_forall_mem] at h1
      have h2 := h1 e he
      simp only [hbd, Bool.not_true, Bool.false_or, decide_eq_true_eq] at h2
      cases h : listed.getD e.on false with
      | true => rfl
      | false =>
        have := hleast e.on ((hUm e.on).2 ⟨by omega, h⟩)
        omega
    rw [show f + 1 + (l.toArray.size - n) = (f + (l.toArray.size - n)) + 1 by omega]
    refine ⟨fun h => (by rw [h] at hready; cases hready), fun i hi => ?_⟩
    obtain ⟨hiu, o, ho, hdep⟩ := mem_ready.1 hi
    have hilt : i < n := Nat.lt_of_not_le fun h => tail_waits hsink hchain hn hF.inv _ i0 rfl hi0n (getD_in (hin _ hi0n) hi0u) i h hi
    have hiU : i ∈ U := (hUm i).2 ⟨hilt, getD_both hiu⟩
    have hinv := hF.inv.set hi hilt
    have hlist : ∀ j, (listed.setIfInBounds i true).getD j false = if j = i then true else listed.getD j false := fun j => by
      by_cases h : j = i
      · subst h; rw [if_pos rfl]; simp [hin j hilt]
      · rw [if_neg h, getD_set_ne false (Ne.symm h)]
    have hUm' : ∀ j, j ∈ U.erase i ↔ j < n ∧ (listed.setIfInBounds i true).getD j false = false := fun j => by
      rw [hnd.mem_erase_iff, hUm j, hlist j]
      by_cases h : j = i
      · simp [h]
      · simp [h]
    have hlen' : (U.erase i).length = f := by rw [List.length_erase_of_mem hiU]; omega
    have hnd' := hnd.erase i
    -- what an operation looks at is as in the end
    have hseen : ∀ t ∈ o.looksAt l.toArray, ∀ j oj, j < n → l.toArray[j]? = some oj → oj.dst = some t → i ≠ j ∧ j < i ∧ listed.getD j false = true := by
      intro t ht j oj hj hoj hd
      have hne : i ≠ j := fun e => by
        subst e
        rw [ho] at hoj; cases hoj
        exact Region.flowPair_self (hpair i hilt i hilt) ho hd ht
      have h1 := Region.flowPair_looks (hpair i hilt j hj) ho hoj hne hd ht
      obtain ⟨o', ho', e, he, hbd, hon⟩ := Region.waitsFor_spec h1.2
      rw [ho] at ho'; cases ho'
      have := hdep e he hbd
      rw [hon] at this
      exact ⟨hne, h1.1, this⟩
    by_cases hib : i = b
    · subst hib
      rw [hobA] at ho; cases ho
      have hg : ob.guard = none := by rw [hobA] at hguard; simpa using hguard
      obtain rfl : w = W := hF.wld.2 (getD_both hiu)
      have hex : execOp a.eval ob = execOp A.eval ob := (seen_alike (ops := l.toArray) (fun cs bb => hselect i ob cs bb hobA) fun t htl => by
        by_cases h : ∃ j o, j < n ∧ l.toArray[j]? = some o ∧ o.dst = some t
        · obtain ⟨j, oj, h1, h2, h3⟩ := h
          obtain ⟨k1, k2, k3⟩ := hseen t htl j oj h1 h2 h3
          rw [hF.slot j oj t h1 h2 h3 (Ne.symm k1), if_pos k3]
        · have h' : ∀ j o, j < n → l.toArray[j]? = some o → o.dst ≠ some t := fun j o h1 h2 h3 => h ⟨j, o, h1, h2, h3⟩
          rw [hF.other t h', hAo t fun j o h1 h2 _ => h' j o h1 h2]).1
      unfold wpOp
      simp only [hobA]
      rw [if_pos (by simp [Region.wanted, hg])]
      refine .inl ?_
      unfold Oper.wp
      rw [hex, hb]
      simp only [Oper.upon_skip]
      have hD := hD0
      refine ih (U.erase i) _ _ _ undef hlen' hnd' hUm' ⟨hinv, by rw [put_size, hF.size], by rw [put_defers, hF.defers], ?_, ?_, ?_, fun _ => hD, fun h => (by rw [hlist i, if_pos rfl] at h; cases h)⟩
      · intro j oj t hj hoj hd hjb
        have hne : ob.dst ≠ some t := fun h => Region.flowPair_dst (hpair i hilt j hj) hobA hoj (Ne.symm hjb) h hd
        rw [put_get, if_neg hne, hF.slot j oj t hj hoj hd hjb, hlist j, if_neg hjb]
      · intro t hd
        rw [put_get, if_pos hd, hlist i, if_pos rfl, if_pos rfl, hF.slotb t hd, if_neg (by rw [getD_both hiu]; simp)]
      · intro t h
        rw [put_get, if_neg (h i ob hilt hobA), hF.other t h]
    · have hcl : w = W ∨ ∃ v, D v w := by
        cases h : listed.getD b false with
        | true => exact .inr ⟨vb, hF.wld.1 h⟩
        | false => exact .inl (hF.wld.2 h)
      have hpos := headsOf_get hbn hn' hilt hib
      have hol : l[i]? = some o := by rw [← hget]; exact ho
      rw [hol] at hpos
      have hsplit : headsOf l n b = (headsOf l n b).take (posOf b i) ++ o :: (headsOf l n b).drop (posOf b i + 1) := by
        have hlt := (List.getElem?_eq_some_iff.1 hpos).1
        have e := (List.getElem?_eq_some_iff.1 hpos).2
        rw [← e, ← List.drop_eq_getElem_cons hlt, List.take_append_drop]
      obtain ⟨_, _, _, htext⟩ := quiet_text _ _ (hq w hcl) hpw
      obtain ⟨ai, v, hy, t1, t2, t3⟩ := htext _ o _ hsplit
      have hal := seen_alike (ops := l.toArray) (o := o) (a := a) (a' := ai) (fun cs bb => hselect i o cs bb ho) fun t htl => by
        by_cases h : ∃ j o, j < n ∧ l.toArray[j]? = some o ∧ o.dst = some t
        · obtain ⟨j, oj, h1, h2, h3⟩ := h
          obtain ⟨k1, k2, k3⟩ := hseen t htl j oj h1 h2 h3
          by_cases hjb : j = b
          · -- nobody else looks at b's yield
            subst hjb
            have h4 := hblind i hilt
            simp only [Bool.or_eq_true, beq_iff_eq, hib, false_or] at h4
            exact absurd htl (Region.blindTo_spec h4 ho h2 h3)
          · rw [hF.slot j oj t h1 h2 h3 hjb, if_pos k3]
            refine (t1 t ⟨oj, ?_, h3⟩).symm
            have hjp := headsOf_get hbn hn' h1 hjb
            rw [← hget, h2] at hjp
            refine List.mem_of_getElem? (i := posOf b j) ?_
            rw [List.getElem?_take, if_pos (by unfold posOf; split <;> split <;> omega)]
            exact hjp
        · have h' : ∀ j o, j < n → l.toArray[j]? = some o → o.dst ≠ some t := fun j o h1 h2 h3 => h ⟨j, o, h1, h2, h3⟩
          rw [hF.other t h']
          refine (t2 t fun p hp => ?_).symm
          obtain ⟨q, hq'⟩ := List.mem_iff_getElem?.1 (List.mem_of_mem_take hp)
          obtain ⟨j, h1, h2, h3, _⟩ := headsOf_from hbn hn' hq'
          exact h' j p h1 (by rw [hget]; exact h3)
      have hy' := hy.of_same hal.1 hal.2
      have hqo := hy'.qOp (K := fun a' => a' = a.put o.dst v) ho rfl
      refine wpOp_of_qOp (C := fun w' => w' = w) rfl ?_ hqo
      rintro a' w' rfl rfl
      refine ih (U.erase i) _ _ _ vb hlen' hnd' hUm' ⟨hinv, by rw [put_size, hF.size], by rw [put_defers, hF.defers], ?_, ?_, ?_, ?_⟩
      · intro j oj t hj hoj hd hjb
        rw [put_get, hlist j]
        by_cases hji : j = i
        · subst hji
          rw [ho] at hoj; cases hoj
          rw [if_pos hd, if_pos rfl, if_pos rfl, hF.slot j o t hj ho hd hjb, if_neg (by rw [getD_both hiu]; simp), t3 t hd]
        · have hne : o.dst ≠ some t := fun h => Region.flowPair_dst (hpair i hilt j hj) ho hoj (Ne.symm hji) h hd
          rw [if_neg hne, if_neg hji, hF.slot j oj t hj hoj hd hjb]
      · intro t hd
        have hne : o.dst ≠ some t := fun h => Region.flowPair_dst (hpair i hilt b hbn) ho hobA hib h hd
        rw [put_get, if_neg hne, hF.slotb t hd, hlist b, if_neg (Ne.symm hib)]
      · intro t h
        rw [put_get, if_neg (h i o hilt ho), hF.other t h]
      · rw [hlist b, if_neg (Ne.symm hib)]
        exact hF.wld

/-- The rule: one head operation stores; the heads but it read alike before and behind the store. -/
theorem wp_region_storeflow {id : Nat} (n b : Nat) (ob : Oper) (W2 : World) (hm : P.follows .mixedOrders = true) (hB : Region.flowB l.toArray n b = true) (hob : l[b]? = some ob)
    (hh : ∃ A, (∀ w, (w = { W with drawn := W.drawn + 1 } ∨ w = W2) → wpQuiet P l.toArray (fun w' => w' = w) (fun a' => a' = A) (headsOf l n b) a0) ∧
      (execOp A.eval ob).run P { W with drawn := W.drawn + 1 } = .ok .skip W2 ∧
        wpList P l.toArray Q (l.drop n) (A.put ob.dst undef) W2) :
    (Code.region id l.toArray true).wp P Q a0 W := by
  obtain ⟨A, hq, hb, ht⟩ := hh
  refine wp_region_any hm ?_
  have hB' := hB
  simp only [Region.flowB, Bool.and_eq_true, decide_eq_true_eq] at hB'
  have hn := hB'.1.1.1.1.1.1.1.1.2
  have inv0 : HeadInv .any l.toArray n (Array.replicate l.toArray.size false) :=
    ⟨by simp, fun j oj _ hl => (by rw [getD_replicate_false] at hl; cases hl), fun t _ ht => getD_in (by simpa using ht) (getD_replicate_false _ _)⟩
  have h := storeflow_run (W := { W with drawn := W.drawn + 1 }) (a0 := a0) (A := A) (D := fun v w => v = undef ∧ w = W2) (Q := Q) hB hob (fun w h => hq w (h.imp (fun h => h) fun ⟨_, h⟩ => h.2)) hb ⟨rfl, rfl⟩ (fun v w h => by rw [h.1, h.2]; exact ht) n (List.range n) (Array.replicate l.toArray.size false) a0 _ undef (by simp) List.nodup_range (fun i => by rw [List.mem_range]; exact ⟨fun h => ⟨h, getD_replicate_false _ _⟩, fun h => h.1⟩)
    ⟨inv0, rfl, rfl, fun j o t _ _ _ _ => by rw [getD_replicate_false]; rfl, fun t _ => by rw [getD_replicate_false]; rfl, fun _ _ => rfl, fun h => (by rw [getD_replicate_false] at h; cases h), fun _ => rfl⟩
  rwa [show n + (l.toArray.size - n) = l.toArray.size by omega] at h

end
end Go

/- Ways that the reference searches, plainly; what its settle and its extreme keep. -/
namespace Go.Proofs.Ytlakcghdehdeiaa
open Go Go.Proofs Go.RowKit

/-- A step as the reference writes it. -/
def code (s : St) : Int := if s.2 then (s.1 : Int) + 1 else -(s.1 : Int) - 1
theorem code_fwd (i : Nat) : code (i, true) = i + 1 := rfl
theorem code_bwd (i : Nat) : code (i, false) = -(i : Int) - 1 := rfl
theorem code_ne (s : St) : code s ≠ 0 := by unfold code; split <;> omega

/-- The search from u among n nodes: the nodes reached, in their order, and by which step each was reached. -/
structure BfsR (l : List Ac) (wo : Int) (u n : Nat) (seen : List Bool) (bys : List Int) (ord : List Nat) : Prop where
  n1 : seen.length = n
  n2 : bys.length = n
  hd : u ∈ ord
  nd : ord.Nodup
  lt : ∀ x ∈ ord, x < n
  mem : ∀ x, x < n → (seen.getD x false = true ↔ x ∈ ord)
  root : bys[u]? = some 0
  tree : ∀ x ∈ ord, x ≠ u → ∃ s k, bys[x]? = some (code s) ∧ k ∈ ord ∧ ord.idxOf k < ord.idxOf x ∧ GoodSt l k wo (s, x)

theorem BfsR.start (l : List Ac) (wo : Int) (u n : Nat) (hu : u < n) : BfsR l wo u n ((List.replicate n false).set u true) (List.replicate n 0) [u] :=
  ⟨by simp, by simp, by simp, by simp, by simpa using hu, fun x hx => by
    simp only [List.getD_eq_getElem?_getD, List.getElem?_set, List.length_replicate, List.mem_singleton, List.getElem?_replicate]
    by_cases h : u = x
    · subst h; simp [hu]
    · rw [if_neg h, if_pos hx]; simp [Ne.symm h], by simp [List.getElem?_replicate, hu], fun x hx hne => absurd (by simpa using hx) hne⟩

theorem BfsR.visit {l : List Ac} {wo : Int} {u n : Nat} {seen : List Bool} {bys : List Int} {ord : List Nat} (h : BfsR l wo u n seen bys ord) {k x : Nat} {s : St} (hk : k ∈ ord) (hx : x < n) (hn : x ∉ ord) (hg : GoodSt l k wo (s, x)) :
    BfsR l wo u n (seen.set x true) (bys.set x (code s)) (ord ++ [x]) := by
  refine ⟨by simp [h.n1], by simp [h.n2], by simp [h.hd], ?_, ?_, ?_, ?_, ?_⟩
  · rw [List.nodup_append]
    exact ⟨h.nd, by simp, fun a ha b hb e => by simp at hb; subst hb; subst e; exact hn ha⟩
  · intro y hy
    rcases List.mem_append.1 hy with hy | hy
    · exact h.lt y hy
    · simp at hy; omega
  · intro y hy
    by_cases e : x = y
    · subst e; simp [List.getD_eq_getElem?_getD, h.n1, hx]
    · have := h.mem y hy
      simp only [List.getD_eq_getElem?_getD, List.getElem?_set, if_neg e] at this ⊢
      rw [this]; simp [Ne.symm e]
  · have e : x ≠ u := fun e => hn (e ▸ h.hd)
    rw [List.getElem?_set, if_neg e]; exact h.root
  · intro y hy hne
    rcases List.mem_append.1 hy with hy | hy
    · obtain ⟨s', k', h1, h3, h4, h5⟩ := h.tree y hy hne
      have e : x ≠ y := fun e => hn (e ▸ hy)
      exact ⟨s', k', by rw [List.getElem?_set, if_neg e]; exact h1, List.mem_append_left _ h3, by rw [idxOf_old _ _ _ h3, idxOf_old _ _ _ hy]; exact h4, h5⟩
    · simp at hy; subst hy
      exact ⟨s, k, by simp [h.n2, hx], List.mem_append_left _ hk, by rw [idxOf_old _ _ _ hk, idxOf_new _ _ hn]; exact List.idxOf_lt_length_of_mem hk, hg⟩

theorem BfsR.count {l : List Ac} {wo : Int} {u n : Nat} {seen : List Bool} {bys : List Int} {ord : List Nat} (h : BfsR l wo u n seen bys ord) : ord.length ≤ n := by
  have h1 : ord.length ≤ (List.range n).length := h.nd.length_le_of_subset fun x hx => List.mem_range.2 (h.lt x hx)
  simpa using h1

/-- The way back from a node to u, as the row of steps tells it. -/
def TraceR (l : List Ac) (bys : List Int) (u : Nat) : Nat → List St → Prop
  | v, [] => v = u
  | v, s :: p => v ≠ u ∧ bys[v]? = some (code s) ∧ s.1 < l.length ∧ TraceR l bys u (tailOf l s) p

theorem BfsR.way {l : List Ac} {wo : Int} {u n : Nat} {seen : List Bool} {bys : List Int} {ord : List Nat} (h : BfsR l wo u n seen bys ord) :
    ∀ (m v : Nat), v ∈ ord → ord.idxOf v < m → ∃ p, TraceR l bys u v p ∧ Wy l wo v p u ∧ (∀ s ∈ p, ord.idxOf (tailOf l s) < ord.idxOf (headOf l s)) ∧ (∀ s ∈ p, 0 < roomOf l s) ∧ p.length < m
  | 0, v, _, h0 => by omega
  | m + 1, v, hv, hn => by
    by_cases e : v = u
    · exact ⟨[], e, e, by simp, by simp, by simp⟩
    · obtain ⟨s, k, h1, h3, h4, h5⟩ := h.tree v hv e
      obtain ⟨p, p1, p2, p3, p4, p5⟩ := BfsR.way h m k h3 (by omega)
      refine ⟨s :: p, ⟨e, h1, h5.lt, by rw [h5.tl]; exact p1⟩, ⟨h5.lt, h5.ne, h5.hd, by rw [h5.tl]; exact p2⟩, ?_, ?_, by simpa using p5⟩
      · intro t ht
        rcases List.mem_cons.1 ht with rfl | ht
        · rw [h5.tl, h5.hd]; exact h4
        · exact p3 t ht
      · intro t ht
        rcases List.mem_cons.1 ht with rfl | ht
        · exact h5.rm
        · exact p4 t ht

theorem BfsR.way' {l : List Ac} {wo : Int} {u n t : Nat} {seen : List Bool} {bys : List Int} {ord : List Nat} (h : BfsR l wo u n seen bys ord) (ht : t ∈ ord) :
    ∃ p, TraceR l bys u t p ∧ Wy l wo t p u ∧ (p.map Prod.fst).Nodup ∧ (∀ s ∈ p, 0 < roomOf l s) ∧ p.length < n := by
  have hc := h.count
  obtain ⟨p, p1, p2, p3, p4, p5⟩ := h.way (ord.idxOf t + 1) t ht (by omega)
  have := List.idxOf_lt_length_of_mem ht
  exact ⟨p, p1, p2, (Wy.nodup (rk := fun x => ord.idxOf x) p2 p3).1, p4, by omega⟩

/-- The first i arcs have been looked at from node v. -/
def DoneR (l : List Ac) (wo : Int) (ord : List Nat) (v i : Nat) : Prop := ∀ j (h : j < l.length), j < i → (j : Int) ≠ wo → (l[j].fr = v → l[j].fl < l[j].hi → l[j].to ∈ ord) ∧ (l[j].to = v → l[j].lo < l[j].fl → l[j].fr ∈ ord)
theorem DoneR.zero (l : List Ac) (wo : Int) (ord : List Nat) (v : Nat) : DoneR l wo ord v 0 := fun _ _ h => absurd h (Nat.not_lt_zero _)
theorem DoneR.more {l : List Ac} {wo : Int} {ord : List Nat} {v i : Nat} (h : DoneR l wo ord v i) (ord' : List Nat) : DoneR l wo (ord ++ ord') v i :=
  fun j hj hi hw => ⟨fun a b => List.mem_append_left _ ((h j hj hi hw).1 a b), fun a b => List.mem_append_left _ ((h j hj hi hw).2 a b)⟩
theorem DoneR.succ {l : List Ac} {wo : Int} {ord : List Nat} {v i : Nat} (h : DoneR l wo ord v i) (hi : i < l.length) (h1 : (i : Int) ≠ wo → l[i].fr = v → l[i].fl < l[i].hi → l[i].to ∈ ord) (h2 : (i : Int) ≠ wo → l[i].to = v → l[i].lo < l[i].fl → l[i].fr ∈ ord) : DoneR l wo ord v (i + 1) := by
  intro j hj hji hw
  by_cases e : j = i
  · subst e; exact ⟨h1 hw, h2 hw⟩
  · exact h j hj (by omega) hw

theorem BfsR.closed {l : List Ac} {wo : Int} {u n : Nat} {seen : List Bool} {bys : List Int} {ord : List Nat} (h : BfsR l wo u n seen bys ord) (hE : Ends n l) (hc : ∀ v ∈ ord, DoneR l wo ord v l.length) :
    Closed (fun x => seen.getD x false) wo l := by
  intro j hj hw
  obtain ⟨e1, e2⟩ := hE l[j] (List.getElem_mem hj)
  have m1 := h.mem _ e1
  have m2 := h.mem _ e2
  constructor
  · intro h1 h2
    refine Int.not_lt.1 fun hlt => ?_
    have := (hc _ (m1.1 h1) j hj hj hw).1 rfl hlt
    have h2' : seen.getD l[j].to false = false := h2
    rw [m2.2 this] at h2'; cases h2'
  · intro h1 h2
    refine Int.not_lt.1 fun hlt => ?_
    have := (hc _ (m2.1 h1) j hj hj hw).2 rfl hlt
    have h2' : seen.getD l[j].fr false = false := h2
    rw [m1.2 this] at h2'; cases h2'

/-- What the reference's search returns: a way to a wanted node, by how much more can flow along it; or nothing, and then what is reached is closed. -/
def WayR (l : List Ac) (wo : Int) (u n : Nat) (to : List Bool) (out : List Int) (most : Int) (ok : Bool) : Prop :=
  (ok = true ∧ ∃ p t, out = p.map code ∧ to.getD t false = true ∧ t < n ∧ Wy l wo t p u ∧ (p.map Prod.fst).Nodup ∧ (∀ s ∈ p, 0 < roomOf l s) ∧ p.length < n ∧ most = least l p 3999999996) ∨
  (ok = false ∧ out = [] ∧ most = 0 ∧ ∃ R : Nat → Bool, Closed R wo l ∧ R u = true ∧ ∀ t, t < n → to.getD t false = true → R t = false)

theorem wayR_none {l : List Ac} {wo : Int} {u n : Nat} {seen : List Bool} {bys : List Int} {ord : List Nat} {to : List Bool} (h : BfsR l wo u n seen bys ord) (hE : Ends n l) (hc : ∀ v ∈ ord, DoneR l wo ord v l.length) (ht : ∀ v ∈ ord, to.getD v false = false) :
    WayR l wo u n to [] 0 false := by
  refine .inr ⟨rfl, rfl, rfl, fun x => seen.getD x false, h.closed hE hc, (h.mem u (h.lt u h.hd)).2 h.hd, fun t htn h1 => ?_⟩
  show seen.getD t false = false
  cases hs : seen.getD t false with
  | false => rfl
  | true => rw [ht t ((h.mem t htn).1 hs)] at h1; cases h1

/-! ### Sums of what is too much -/
theorem sumN_nonpos (n : Nat) (f : Nat → Int) (h : ∀ v, v < n → f v ≤ 0) : sumN n f ≤ 0 := by
  have := sumN_le n f (fun _ => 0) h
  rwa [sumN_zero] at this
theorem sumN_all_zero : ∀ (n : Nat) (f : Nat → Int), (∀ v, v < n → f v ≤ 0) → sumN n f = 0 → ∀ v, v < n → f v = 0
  | 0, _, _, _, v, h => by omega
  | n + 1, f, h, h0, v, hv => by
    have h1 := sumN_nonpos n f fun v hv => h v (by omega)
    have h2 := h n (by omega)
    simp only [sumN] at h0
    by_cases e : v = n
    · subst e; omega
    · exact sumN_all_zero n f (fun v hv => h v (by omega)) (by omega) v (by omega)
/-- Where no node has too much, the flows are a circulation. -/
theorem circ_of_none {n : Nat} {l : List Ac} (hE : Ends n l) (hf : Fits l) (h : ∀ v, v < n → exc v l ≤ 0) : Circ n l :=
  ⟨hf, sumN_all_zero n _ h (exc_all hE)⟩
/-- What is too much in all nodes. -/
def over (n : Nat) (l : List Ac) : Int := sumN n fun v => max (exc v l) 0
theorem over_nonneg (n : Nat) (l : List Ac) : 0 ≤ over n l := by
  have := sumN_le n (fun _ => 0) (fun v => max (exc v l) 0) fun v _ => by omega
  rwa [sumN_zero] at this
theorem over_less {n u t : Nat} {l l' : List Ac} {wo m : Int} (h : Flow l l' u t wo m) (hu : u < n) (hut : u ≠ t) (h0 : 0 < m) (h1 : m ≤ exc u l) (h2 : m ≤ -exc t l) : over n l' < over n l := by
  have e : over n l' = sumN n (fun v => max (exc v l) 0 - if v = u then m else 0) := by
    refine sumN_congr n _ _ fun v _ => ?_
    have hx := h.ex v
    by_cases e1 : v = u
    · subst e1
      rw [if_neg (Ne.symm hut), if_pos rfl] at hx
      rw [if_pos rfl]; omega
    · have e3 : ¬ u = v := fun e => e1 e.symm
      rw [if_neg e1]
      by_cases e2 : t = v
      · subst e2; rw [if_pos rfl, if_neg e3] at hx; omega
      · rw [if_neg e2, if_neg e3] at hx; omega
  rw [e, sumN_sub, sumN_one n u m hu]
  show sumN n _ - m < over n l
  unfold over
  omega
/-- Where no node that lacks can be reached from one that has too much, there is no circulation. -/
theorem none_of_closed {n u : Nat} {l : List Ac} {R : Nat → Bool} (hE : Ends n l) (hC : Closed R (-1) l) (hu : u < n) (hR : R u = true) (h0 : 0 < exc u l) (hn : ∀ v, v < n → exc v l < 0 → R v = false) : 0 < cutv R l := by
  have h1 : cross R l ≤ cutv R l := cutv_ge R l fun a ha => by
    obtain ⟨j, hj, rfl⟩ := List.mem_iff_getElem.1 ha
    exact hC j hj (by omega)
  have h2 : sumN n (fun v => if v = u then exc u l else 0) ≤ sumN n (fun v => if R v = true then exc v l else 0) := by
    refine sumN_le n _ _ fun v hv => ?_
    by_cases e : v = u
    · subst e; rw [if_pos rfl, if_pos hR]; exact Int.le_refl _
    · rw [if_neg e]
      by_cases e2 : R v = true
      · rw [if_pos e2]
        refine Int.not_lt.1 fun hlt => ?_
        rw [hn v hv hlt] at e2; cases e2
      · rw [if_neg e2]; exact Int.le_refl _
  rw [sumN_one n u _ hu, sumN_cross n R l hE] at h2
  omega

/-- What the reference's settle leaves. -/
structure SetR (n : Nat) (l l' : List Ac) (ok : Bool) : Prop where
  shape : shp l' = shp l
  fits : Fits l'
  yes : ok = true → Circ n l'
  no : ok = false → ∀ l2, shp l2 = shp l → ¬ Circ n l2
theorem setR_yes {n : Nat} {l l' : List Ac} (hs : shp l' = shp l) (hE : Ends n l') (hf : Fits l') (h : ∀ v, v < n → exc v l' ≤ 0) : SetR n l l' true :=
  ⟨hs, hf, fun _ => circ_of_none hE hf h, fun h => (by cases h)⟩
theorem setR_no {n u : Nat} {l l' : List Ac} {R : Nat → Bool} (hs : shp l' = shp l) (hE : Ends n l') (hf : Fits l') (hC : Closed R (-1) l') (hu : u < n) (hR : R u = true) (h0 : 0 < exc u l') (hn : ∀ v, v < n → exc v l' < 0 → R v = false) : SetR n l l' false :=
  ⟨hs, hf, fun h => (by cases h), fun _ l2 h2 => no_circ (h2.trans hs.symm) hE (none_of_closed hE hC hu hR h0 hn)⟩

/-- What the reference's extreme keeps in its rounds. -/
structure MidR (l0 l : List Ac) : Prop where
  shape : shp l = shp l0
  fits : Fits l
  bal : ∀ x, exc x l = exc x l0
theorem MidR.refl {l : List Ac} (h : Fits l) : MidR l l := ⟨rfl, h, fun _ => rfl⟩
theorem MidR.circ {l0 l : List Ac} (h : MidR l0 l) {n : Nat} (hc : Circ n l0) : Circ n l := ⟨h.fits, fun v hv => (h.bal v).trans (hc.bal v hv)⟩
theorem bump_zero (l : List Ac) (s : St) : bump l s 0 = l := by
  unfold bump
  apply List.ext_getElem? 
  intro i
  rw [List.getElem?_modify]
  cases l[i]? with
  | none => rfl
  | some a => cases s.2 <;> by_cases h : s.1 = i <;> simp [h]
/-- The end of its rounds: the arc is full, or what is reached is closed. -/
theorem MidR.last {l0 l : List Ac} {i : Nat} {high : Bool} {R : Nat → Bool} {a : Ac} (h : MidR l0 l) (hi : l[i]? = some a)
    (hor : (if high then a.hi - a.fl else a.fl - a.lo) = 0 ∨ (Closed R i l ∧ R (if high then a.to else a.fr) = true ∧ R (if high then a.fr else a.to) = false)) : PushR l0 l i high := by
  have h1 : 0 ≤ (if high then a.hi - a.fl else a.fl - a.lo) := by
    have := (fits_iff l).1 h.fits i a hi
    split <;> omega
  have hp := pushR_of (R := R) hi h.fits (Flow.refl l (if high then a.to else a.fr) (if high then a.fr else a.to) i) (most := if high then a.hi - a.fl else a.fl - a.lo) rfl (Int.le_refl 0) h1 (hor.elim (fun e => .inl e.symm) .inr)
  rw [bump_zero] at hp
  exact ⟨h.shape, h.fits, h.bal, fun n hE hc l2 h2 hc2 => hp.ext n (shp_ends h.shape.symm hE) (h.circ hc) l2 (h2.trans h.shape.symm) hc2⟩
theorem headOf_at {l : List Ac} {i : Nat} {a : Ac} (h : l[i]? = some a) (f : Bool) : headOf l (i, f) = (if f then a.to else a.fr) ∧ tailOf l (i, f) = (if f then a.fr else a.to) ∧ roomOf l (i, f) = (if f then a.hi - a.fl else a.fl - a.lo) := by
  unfold headOf tailOf roomOf
  rw [h]
  exact ⟨rfl, rfl, rfl⟩
/-- One round. -/
theorem MidR.round {l0 l l1 : List Ac} {i : Nat} {high : Bool} {m : Int} {a : Ac} (h : MidR l0 l) (hi : l[i]? = some a) (hfl : Flow l l1 (if high then a.to else a.fr) (if high then a.fr else a.to) i m) (h0 : 0 ≤ m) (h1 : m ≤ if high then a.hi - a.fl else a.fl - a.lo) :
    MidR l0 (bump l1 (i, high) m) := by
  have hi1 : l1[i]? = some a := by rw [hfl.wo i rfl]; exact hi
  obtain ⟨e1, e2, e3⟩ := headOf_at hi1 high
  refine ⟨by rw [shp_bump, hfl.shape, h.shape], fits_bump (hfl.fits h.fits) h0 (by rw [e3]; exact h1), fun x => ?_⟩
  rw [exc_bump _ _ _ _ (List.getElem?_eq_some_iff.1 hi1).1, hfl.ex x, e1, e2, ← h.bal x]
  omega
end Go.Proofs.Ytlakcghdehdeiaa

/- Walks: the reference's arcs of a book. -/
namespace Go.Proofs.Ytlakcghdehdeiaa
open Go Go.Proofs Go.RowKit

theorem Try.info99 : (Try.prog.info? 99).map (fun i => (i.zero, i.size, i.bytes)) = some (some (.agg #[.int .i64 0, .int .i64 0, .int .i64 0, .int .i64 0, .int .i64 0]), 5, 40) := by kernel_rfl
theorem Ac.encR_one (x : Ac) : ∀ u ∈ x.encR, u.oneCell' = true := by intro u hu; simp only [Ac.encR, List.mem_cons, List.not_mem_nil, or_false] at hu; rcases hu with rfl | rfl | rfl | rfl | rfl <;> rfl
section
variable {α : Type} {f : α → List Value} {sz : Nat} {e : TypeId} {w : World} {base : Nat} {l : List α}
theorem Own.atN {g n cap : Nat} (h : Own f sz e w base (.slice (some ⟨g, 0, none⟩) n cap) l) (hn : l.length = n) (hf : ∀ x, (f x).length = sz) (i : Nat) (hi : i < l.length) : At w g (i * sz) (f l[i]) := by subst hn; exact h.at hf i hi
theorem Own.frozenN {g n cap : Nat} (h : Own f sz e w base (.slice (some ⟨g, 0, none⟩) n cap) l) (hn : l.length = n) (o : Nat) : w.frozen? ⟨g, o, none⟩ = false := by subst hn; exact h.frozen o
theorem Own.setN {g n cap : Nat} (h : Own f sz e w base (.slice (some ⟨g, 0, none⟩) n cap) l) (hn : l.length = n) (hf : ∀ x, (f x).length = sz) (i : Nat) (hi : i < l.length) (j : Nat) (hj : j < sz) (u : Value) (y : α) (hy : f y = (f l[i]).set j u) :
    Own f sz e (w.setCell ⟨g, i * sz + j, none⟩ u) base (.slice (some ⟨g, 0, none⟩) n cap) (l.set i y) := by subst hn; exact h.set hf i hi j hj u y hy
end
theorem row_here {w : World} {cs : Array Value} {e : TypeId} {g : Nat} (hg : w.heap.size = g) : (w.alloc (.cells cs e)).heap[g]? = some (.cells cs e (0, 0)) := by
  subst hg; exact Box.new w cs e
/-- It returns a slice of its own. -/
def OwnPost {α : Type} (f : α → List Value) (sz : Nat) (t : TypeId) (l : List α) (w : World) (e : Ending) (w' : World) : Prop := ∃ v, e = .returned v ∧ Own f sz t w' w.heap.size v l ∧ Below w.heap.size w w'

set_option maxRecDepth 100000 in
set_option maxHeartbeats 1000000 in
theorem arcs75 (w : World) (v1 v2 : Value) (b : Bk) (hok : OkBk b) (hv : BkR w w.heap.size v1 v2 b) : Calls Try.prog 75 #[.agg #[v1, v2]] w (OwnPost Ac.encR 5 99 (arcsOf b) w) := by
  have HOK := Lib.hid hok
  obtain ⟨⟨a1, n1, hv1, hl1, hA1⟩, ⟨a2, n2, hv2, hl2, hA2⟩, hids⟩ := hv
  subst hv1 hv2
  have HA1 := Lib.hid hA1
  clear hA1
  have HA2 := Lib.hid hA2
  clear hA2
  clear hids
  have h128 := HOK.out.ts128
  have h32 := HOK.out.st32
  clear hok
  go_enter Try.func75, Try.ntmps75
  go_wp2_with fail
  go_loopw [4, 3] (fun i o wr => ∃ (k : Nat) (vo : Value), k ≤ b.ts.length ∧ i = .int .i64 k ∧ o = vo ∧ Below w.heap.size w wr ∧ Box wr w.heap.size 38 [.slice a1 b.st.length n1, .slice a2 b.ts.length n2] ∧ Own Ac.encR 5 99 wr (w.heap.size + 1) vo ((b.ts.take k).map tkAc)) (fun i _ _ => b.ts.length - (intOf i).toNat)
  case atStart => exact ⟨0, _, by omega, rfl, rfl, (Below.refl _ _).alloc (Nat.le_refl _) _, Box.new _ _ _, Own.nil _ _ _ _ _⟩
  case round =>
    obtain ⟨k, vo, hk, rfl, rfl, hbe, hbx, hown⟩ := hrel
    obtain ⟨d0, d1, df, dz⟩ := hbx.v2
    by_cases hlt : k < b.ts.length
    · obtain ⟨bb, off, rfl, hbb, hcells⟩ := HA2.out (by omega)
      obtain ⟨e0, e1, e2, e3, e4⟩ := ((hcells k hlt).below hbe hbb).c5
      clear hcells HA2
      obtain ⟨m1, m2, m3, m4, m5, m6, m7, m8⟩ := HOK.out.tk b.ts[k] (List.getElem_mem hlt)
      have HTK := Lib.hid (take_snoc b.ts k hlt)
      generalize b.ts[k] = t at *
      obtain ⟨tid, fr, to, lo, hi⟩ := t
      dsimp only at *
      have hlk : ((b.ts.take k).map tkAc).length ≤ 1000000 := by have := List.length_take_le k b.ts; simp; omega
      have HLK := Lib.hid hlk
      have HCS := Lib.hid (show (#[Value.int .i64 (fr + 1), .int .i64 (to + 1), .int .i64 lo, .int .i64 hi, .int .i64 lo] : Array Value).toList = Ac.encR (tkAc ⟨tid, fr, to, ⟨lo, hi⟩⟩) by
        simp only [Ac.encR, tkAc]
        rw [Int.toNat_of_nonneg (by omega), Int.toNat_of_nonneg (by omega)])
      have HBE := Lib.hid hbe
      have HBX := Lib.hid hbx
      have HOWN := Lib.hid hown
      clear hbe hbx hown hlk
      have HSZ := Lib.hid (show w.heap.size + 1 ≤ ((wr.alloc (.cells #[.string tid, .int .i64 fr, .int .i64 to, .int .i64 lo, .int .i64 hi] 53)).alloc (.cells #[.int .i64 (fr + 1), .int .i64 (to + 1), .int .i64 lo, .int .i64 hi, .int .i64 lo] 99)).heap.size by simp; omega)
      have HO2 := Lib.hid ((HOWN.out.alloc (.cells #[.string tid, .int .i64 fr, .int .i64 to, .int .i64 lo, .int .i64 hi] 53)).alloc (.cells #[.int .i64 (fr + 1), .int .i64 (to + 1), .int .i64 lo, .int .i64 hi, .int .i64 lo] 99))
      go_wp2_with (at_builtin; (refine wpList_pushB Ac.encR 5 40 95 99 _ Try.underlying95 Try.info99 rfl (by decide) (by decide) Ac.encR_len Ac.encR_one ((b.ts.take k).map tkAc) (tkAc ⟨tid, fr, to, ⟨lo, hi⟩⟩) (w.heap.size + 1) _ (wr.heap.size + 1) _ _ (row_here (by simp)) HCS.out _ HO2.out HSZ.out HLK.out rfl _ _ rfl rfl rfl ?_); intro v' w' hown' hg')
      go_roundw
      case rel =>
        have hbA := (HBE.out.alloc (by omega) (.cells #[.string tid, .int .i64 fr, .int .i64 to, .int .i64 lo, .int .i64 hi] 53)).alloc (by simp; omega) (.cells #[.int .i64 (fr + 1), .int .i64 (to + 1), .int .i64 lo, .int .i64 hi, .int .i64 lo] 99)
        have hxA := (HBX.out.alloc (.cells #[.string tid, .int .i64 fr, .int .i64 to, .int .i64 lo, .int .i64 hi] 53)).alloc (.cells #[.int .i64 (fr + 1), .int .i64 (to + 1), .int .i64 lo, .int .i64 hi, .int .i64 lo] 99)
        refine ⟨k + 1, _, by omega, by go_num, rfl, grown_below hbA hg' (by simp; omega) HO2.out.lt' (by omega), hxA.kept hg' (HO2.out.ne (by omega)), ?_⟩
        rw [HTK.out, List.map_append]
        exact hown'
      case measure => simp [intOf]; omega
    · obtain rfl : b.ts.length = k := by omega
      rw [List.take_length] at hown
      have HBE := Lib.hid hbe
      have HBX := Lib.hid hbx
      have HOWN := Lib.hid hown
      clear hbe hbx hown
      go_wp2_with fail
      go_loopw [6, 3] (fun i o wr => ∃ (k : Nat) (vo : Value), k ≤ b.st.length ∧ i = .int .i64 k ∧ o = vo ∧ Below w.heap.size w wr ∧ Box wr w.heap.size 38 [.slice a1 b.st.length n1, .slice a2 b.ts.length n2] ∧ Own Ac.encR 5 99 wr (w.heap.size + 1) vo (b.ts.map tkAc ++ stTo b.st k)) (fun i _ _ => b.st.length - (intOf i).toNat)
      case atStart => exact ⟨0, _, by omega, rfl, rfl, HBE.out, HBX.out, by simpa [stTo] using HOWN.out⟩
      case round =>
        clear d0 d1 df dz HBE HBX HOWN
        obtain ⟨k, vo, hk, rfl, rfl, hbe, hbx, hown⟩ := hrel
        obtain ⟨d0, d1, df, dz⟩ := hbx.v2
        by_cases hlt : k < b.st.length
        · obtain ⟨bb, off, rfl, hbb, hcells⟩ := HA1.out (by omega)
          obtain ⟨e0, e1⟩ := ((hcells k hlt).below hbe hbb).c2
          clear hcells HA1
          obtain ⟨m6, m7, m8⟩ := HOK.out.st b.st[k] (List.getElem_mem hlt)
          have HST := Lib.hid (stTo_succ b.st k hlt)
          generalize b.st[k] = r at *
          obtain ⟨lo, hi⟩ := r
          dsimp only at *
          have hlk : (b.ts.map tkAc ++ stTo b.st k).length ≤ 1000000 := by simp [stTo]; omega
          have HLK := Lib.hid hlk
          have HCS := Lib.hid (show (#[Value.int .i64 ((k : Int) + 1), .int .i64 0, .int .i64 lo, .int .i64 hi, .int .i64 lo] : Array Value).toList = Ac.encR (stAc k ⟨lo, hi⟩) from rfl)
          have HBE := Lib.hid hbe
          have HBX := Lib.hid hbx
          have HOWN := Lib.hid hown
          have hsz : w.heap.size + 1 ≤ wr.heap.size := by omega
          have hbb2 : bb < wr.heap.size := by have := hbe.size; omega
          clear hbe hbx hown hlk
          go_wp2_with fail
          refine wp_region_flow 23 22 _ 1 99 (by kernel_rfl) (by kernel_rfl) rfl ?_
          apply Exists.intro
          refine ⟨fun Y => ?_, ?_⟩
          simp only [headsOf, List.take_succ_cons, List.drop_succ_cons, List.take_zero, List.drop_zero, Nat.reduceSub, List.cons_append, List.nil_append]
          repeat go_big_quiet_step (fail)
          exact wpQuiet_nil rfl
          apply Exists.intro
          refine ⟨fun w => ?_, fun g w2 hb2 hg2 hc2 => ?_⟩
          go_simp
          first | rfl | (go_ints; rfl)
          have hb2' := Lib.hid hb2
          simp only [Act.put, List.setIfInBounds_toArray, List.set_cons_succ, List.set_cons_zero, List.drop_succ_cons, List.drop_zero]
          have ho2 := HOWN.out.later hb2'.out
          go_wp2_with (at_builtin; (refine wpList_pushB Ac.encR 5 40 95 99 _ Try.underlying95 Try.info99 rfl (by decide) (by decide) Ac.encR_len Ac.encR_one _ (stAc k ⟨lo, hi⟩) (w.heap.size + 1) w2 g _ _ hc2 HCS.out _ ho2 (Nat.le_trans hsz hb2'.out.size) HLK.out rfl _ _ rfl rfl rfl ?_); intro v' w' hown' hg')
          go_roundw
          case rel =>
            have hbA := HBE.out.trans (hb2'.out.mono HBE.out.size)
            refine ⟨k + 1, _, by omega, by go_num, rfl, grown_below hbA hg' (by have := hbA.size; omega) ho2.lt' (by omega), (HBX.out.later hb2'.out).kept hg' (ho2.ne (by omega)), ?_⟩
            rw [HST.out, ← List.append_assoc]
            exact hown'
          case measure => simp [intOf]; omega
        · obtain rfl : b.st.length = k := by omega
          have HBE := Lib.hid hbe
          have HOWN := Lib.hid hown
          clear hbe hbx hown
          go_wp2_with fail
          go_ret
          exact ⟨_, rfl, HOWN.out.lower (by omega), HBE.out⟩
end Go.Proofs.Ytlakcghdehdeiaa

/- Walks: the reference's excess and push. -/
namespace Go.Proofs.Ytlakcghdehdeiaa
open Go Go.Proofs Go.RowKit

/-- What comes to each of n nodes, less what leaves it. -/
def excL (n : Nat) (l : List Ac) : List Int := (List.range n).map fun v => exc v l
theorem excL_len (n : Nat) (l : List Ac) : (excL n l).length = n := by simp [excL]
theorem excL_get (n : Nat) (l : List Ac) (v : Nat) (h : v < n) : (excL n l)[v]'(by rw [excL_len]; exact h) = exc v l := by simp [excL]
theorem excL_nil (n : Nat) : excL n [] = List.replicate n 0 := by
  apply List.ext_getElem (by simp [excL])
  intro i h1 h2
  simp [excL, exc, tot]
theorem excL_step (n : Nat) (l : List Ac) (a : Ac) (h1 : a.fr < n) (h2 : a.to < n) (hne : a.fr ≠ a.to) :
    ((excL n l).set a.to (exc a.to l + a.fl)).set a.fr (exc a.fr l - a.fl) = excL n (l ++ [a]) := by
  apply List.ext_getElem (by simp [excL])
  intro v q1 q2
  have hv : v < n := by simpa [excL] using q2
  rw [excL_get n (l ++ [a]) v hv, exc_snoc, List.getElem_set]
  by_cases e1 : a.fr = v
  · subst e1
    rw [if_pos rfl, if_neg (Ne.symm hne), if_pos rfl]; omega
  · rw [if_neg e1, List.getElem_set, if_neg e1]
    by_cases e2 : a.to = v
    · subst e2; rw [if_pos rfl, if_pos rfl]; omega
    · rw [if_neg e2, excL_get n l v hv, if_neg e2]; omega

/-- What the walk of excess has. -/
structure ExW (w wr : World) (n : Nat) (l : List Ac) : Prop where
  below : Below w.heap.size w wr
  own : Own encI 1 3 wr w.heap.size (.slice (some ⟨w.heap.size, 0, none⟩) n n) (excL n l)
theorem ExW.later {w wr w' : World} {n : Nat} {l : List Ac} (h : ExW w wr n l) (hb : Below wr.heap.size wr w') : ExW w w' n l := ⟨h.below.trans (hb.mono h.below.size), h.own.later hb⟩
theorem ExW.lt {w wr : World} {n : Nat} {l : List Ac} (h : ExW w wr n l) : w.heap.size < wr.heap.size := (World.ownsRow.lt h.own _ rfl).2
theorem ExW.cell {w wr : World} {n : Nat} {l : List Ac} (h : ExW w wr n l) {i : Nat} (hi : i < n) : wr.cell? ⟨w.heap.size, i, none⟩ = some (.int .i64 (exc i l)) := by
  have := (h.own.atN (excL_len n l) encI_len i (by rw [excL_len]; exact hi)).c1
  rwa [Nat.mul_one, excL_get n l i hi] at this
theorem ExW.frozen {w wr : World} {n : Nat} {l : List Ac} (h : ExW w wr n l) (o : Nat) : wr.frozen? ⟨w.heap.size, o, none⟩ = false := h.own.frozenN (excL_len n l) o
theorem ExW.set1 {w wr : World} {n : Nat} {l : List Ac} (h : ExW w wr n l) {i : Nat} (hi : i < n) (x : Int) :
    Below w.heap.size w (wr.setCell ⟨w.heap.size, i, none⟩ (.int .i64 x)) ∧ Own encI 1 3 (wr.setCell ⟨w.heap.size, i, none⟩ (.int .i64 x)) w.heap.size (.slice (some ⟨w.heap.size, 0, none⟩) n n) ((excL n l).set i x) := by
  refine ⟨h.below.setCell (Nat.le_refl _) _, ?_⟩
  have := h.own.setN (excL_len n l) encI_len i (by rw [excL_len]; exact hi) 0 (by omega) (.int .i64 x) x rfl
  rwa [Nat.mul_one, Nat.add_zero] at this

set_option maxRecDepth 100000 in
set_option maxHeartbeats 1000000 in
theorem excess92 (w : World) (v : Value) (l : List Ac) (n : Nat) (hv : Sl Ac.encR 5 w w.heap.size v l) (hl : l.length ≤ 1000) (hn : n ≤ 1000) (hE : Ends n l) (hne : ∀ a ∈ l, a.fr ≠ a.to) (hs : Small l 1000000000000) :
    Calls Try.prog 92 #[.int .i64 n, v] w (OwnPost encI 1 3 (excL n l) w) := by
  obtain ⟨a1, n1, hv1, hl1, hA1⟩ := hv
  subst hv1
  have HA1 := Lib.hid hA1
  clear hA1
  have HE := Lib.hid hE
  have HNE := Lib.hid hne
  have HS := Lib.hid hs
  clear hE hne hs
  go_enter Try.func92, Try.ntmps92
  go_wp2_with ((refine wpList_mk1 encI 0 (.int .i64 0) rfl 22 3 8 Try.underlying22 Try.infoI rfl (by decide) w.heap.size w n (by omega) (Nat.le_refl _) rfl _ _ rfl .i64 .i64 rfl rfl ?_); intro w2 hown hgr; have HOW := Lib.hid hown; have HGR := Lib.hid hgr; clear hown hgr)
  go_loopw [6] (fun i wr => ∃ k : Nat, k ≤ l.length ∧ i = .int .i64 k ∧ ExW w wr n (l.take k)) (fun i _ => l.length - (intOf i).toNat)
  case atStart => exact ⟨0, by omega, rfl, grown_none_below HGR.out, by rw [List.take_zero, excL_nil]; exact HOW.out⟩
  case round =>
    clear HOW HGR
    obtain ⟨k, hk, rfl, hx⟩ := hrel
    by_cases hlt : k < l.length
    · obtain ⟨bb, off, rfl, hbb, hcells⟩ := HA1.out (by omega)
      obtain ⟨e0, e1, e2, e3, e4⟩ := ((hcells k hlt).below hx.below hbb).c5
      have HCE := Lib.hid (fun (W : World) (hb : Below w.heap.size w W) => ((hcells k hlt).below hb hbb).c5)
      clear hcells
      obtain ⟨p1, p2⟩ := HE.out l[k] (List.getElem_mem hlt)
      have p3 := HNE.out l[k] (List.getElem_mem hlt)
      obtain ⟨p4, p5, p6, p7, p8, p9⟩ := HS.out l[k] (List.getElem_mem hlt)
      have HTK := Lib.hid (take_snoc l k hlt)
      have HST := Lib.hid (excL_step n (l.take k) l[k] p1 p2 p3)
      have hb : ∀ v, -1000000000000000 ≤ exc v (l.take k) ∧ exc v (l.take k) ≤ 1000000000000000 := fun v => by
        have h := tot_bound (fun a => a.at v) 1000000000000 (l.take k) (fun a ha => by
          have := HS.out a (List.mem_of_mem_take ha)
          unfold Ac.at
          split <;> split <;> omega)
        have : ((l.take k).length : Int) ≤ 1000 := by have := List.length_take_le k l; omega
        unfold exc
        omega
      generalize l[k] = a at *
      obtain ⟨fr, to, lo, hi, fl⟩ := a
      dsimp only at *
      obtain ⟨b1, b2⟩ := hb fr
      obtain ⟨b3, b4⟩ := hb to
      clear hb
      have x1 := hx.cell p2
      have fx := hx.frozen
      have zx := hx.lt
      have hbz : bb < wr.heap.size := by omega
      go_wp2_with fail
      refine wp_region_head_drew 21 (by kernel_rfl) (by kernel_rfl) ?_
      simp only [List.take_succ_cons, List.take_zero, List.drop_succ_cons, List.drop_zero]
      repeat go_big_quiet_step (fail)
      refine wpQuiet_nil ?_
      rintro _ ⟨nq, rfl⟩
      go_wp2_with fail
      have hx1 := (hx.later (below_drewN (Below.refl _ _) nq))
      obtain ⟨q1, q2⟩ := hx1.set1 p2 (exc to (l.take k) + fl)
      clear e0 e1 e2 e3 e4 x1 fx zx hx
      obtain ⟨e0, e1, e2, e3, e4⟩ := HCE.out _ q1
      have x2 : ((wr.drewN nq).setCell ⟨w.heap.size, to, none⟩ (.int .i64 (exc to (l.take k) + fl))).cell? ⟨w.heap.size, fr, none⟩ = some (.int .i64 (exc fr (l.take k))) := by
        rw [cell_other _ _ _ _ _ _ (.inr (Ne.symm p3))]; exact hx1.cell p1
      have fx := fun o => q2.frozenN (by rw [List.length_set, excL_len]) o
      have zx := (World.ownsRow.lt q2 _ rfl).2
      generalize (wr.drewN nq).setCell ⟨w.heap.size, to, none⟩ (.int .i64 (exc to (l.take k) + fl)) = W1 at *
      clear hx1 nq
      refine wp_region_head_drew 21 (by kernel_rfl) (by kernel_rfl) ?_
      simp only [List.take_succ_cons, List.take_zero, List.drop_succ_cons, List.drop_zero]
      repeat go_big_quiet_step (fail)
      refine wpQuiet_nil ?_
      rintro _ ⟨nq, rfl⟩
      go_wp2_with fail
      go_roundw
      case rel =>
        refine ⟨k + 1, by omega, by go_num, (below_drewN q1 nq).setCell (Nat.le_refl _) _, ?_⟩
        rw [HTK.out, ← HST.out]
        have := (q2.drewN nq).setN (by rw [List.length_set, excL_len]) encI_len fr (by rw [List.length_set, excL_len]; exact p1) 0 (by omega) (.int .i64 (exc fr (l.take k) - fl)) (exc fr (l.take k) - fl) rfl
        rwa [Nat.mul_one, Nat.add_zero] at this
      case measure => simp [intOf]; omega
    · obtain rfl : l.length = k := by omega
      rw [List.take_length] at hx
      have HX := Lib.hid hx
      clear hx
      go_wp2_with fail
      go_ret
      exact ⟨_, rfl, HX.out.own, HX.out.below⟩
end Go.Proofs.Ytlakcghdehdeiaa

/- Walks: the reference's push. -/
namespace Go.Proofs.Ytlakcghdehdeiaa
open Go Go.Proofs Go.RowKit

theorem pushes_snoc (m : Int) (s : St) : ∀ (p : List St) (l : List Ac), pushes l (p ++ [s]) m = bump (pushes l p m) s m
  | [], _ => rfl
  | t :: p, l => by rw [List.cons_append, pushes, pushes, pushes_snoc m s p]
theorem take_snocS (p : List St) (k : Nat) (h : k < p.length) : p.take (k + 1) = p.take k ++ [p[k]] := by rw [List.take_add_one, List.getElem?_eq_getElem h]; rfl
/-- The arc of a step is as it was until the step is made. -/
theorem pushes_yet {l : List Ac} {p : List St} {m : Int} (hnd : (p.map Prod.fst).Nodup) (k : Nat) (hk : k < p.length) : (pushes l (p.take k) m)[(p[k]).1]? = l[(p[k]).1]? := by
  refine pushes_get_other fun s hs e => ?_
  obtain ⟨j, hj, rfl⟩ := List.mem_iff_getElem.1 hs
  have hjk : j < k := by simp at hj; omega
  rw [List.getElem_take] at e
  have h1 := List.pairwise_iff_getElem.1 hnd j k (by simp; omega) (by simpa using hk) hjk
  exact h1 (by simpa using e)

/-- What a call leaves that only stores into the arcs. -/
structure ArcW (w wr : World) (B : Nat) (v : Value) (l : List Ac) : Prop where
  own : Own Ac.encR 5 99 wr B v l
  kept : Kept (fun k => v.ownBlock = some k) w wr
theorem ArcW.later {w wr w' : World} {B : Nat} {v : Value} {l : List Ac} (h : ArcW w wr B v l) (hb : Below wr.heap.size wr w') : ArcW w w' B v l := ⟨h.own.later hb, h.kept.below hb⟩
theorem ArcW.bump {w wr : World} {B g cap n : Nat} {l : List Ac} (h : ArcW w wr B (.slice (some ⟨g, 0, none⟩) n cap) l) (hn : l.length = n) (s : St) (m : Int) (hs : s.1 < l.length) (x : Int) (hx : x = if s.2 then l[s.1].fl + m else l[s.1].fl - m) :
    ArcW w (wr.setCell ⟨g, s.1 * 5 + 4, none⟩ (.int .i64 x)) B (.slice (some ⟨g, 0, none⟩) n cap) (bump l s m) := by
  refine ⟨?_, h.kept.set _ (.inl rfl)⟩
  rw [bump_set l s m hs]
  exact h.own.setN hn Ac.encR_len s.1 hs 4 (by omega) (.int .i64 x) { l[s.1] with fl := if s.2 then l[s.1].fl + m else l[s.1].fl - m } (by rw [hx]; rfl)

set_option maxRecDepth 100000 in
set_option maxHeartbeats 1000000 in
theorem push94 (w : World) (B : Nat) (v : Value) (l : List Ac) (bu : Nat) (u : Value) (p : List St) (m : Int) (hown : Own Ac.encR 5 99 w B v l) (hu : Own encI 1 3 w bu u (p.map code)) (hp : ∀ s ∈ p, s.1 < l.length) (hnd : (p.map Prod.fst).Nodup)
    (hl : l.length ≤ 1000) (hpl : p.length ≤ 1000) (hs : Small l 1000000000000) (hm : 0 ≤ m ∧ m ≤ 100000000000000) :
    Calls Try.prog 94 #[v, u, .int .i64 m] w (fun e w' => e = .returned (.tuple #[]) ∧ ArcW w w' B v (pushes l p m)) := by
  have HDI := Lib.hid (hu.two_types hown (by decide))
  have HP := Lib.hid hp
  have HND := Lib.hid hnd
  have HS := Lib.hid hs
  obtain ⟨a, n, hsh⟩ := hown.shape
  obtain ⟨a2, n2, hsh2⟩ := hu.shape
  subst hsh hsh2
  have hpm : (p.map code).length = p.length := by simp
  rw [hpm] at hu HDI ⊢
  have HOWN := Lib.hid hown
  have HU := Lib.hid hu
  obtain ⟨hm0, hm1⟩ := hm
  clear hown hu hp hnd hs hpm
  go_enter Try.func94, Try.ntmps94
  go_wp2_with fail
  go_loopw [6] (fun i wr => ∃ k : Nat, k ≤ p.length ∧ i = .int .i64 k ∧ ArcW w wr B (.slice a l.length n) (pushes l (p.take k) m)) (fun i _ => p.length - (intOf i).toNat)
  case atStart => exact ⟨0, by omega, rfl, HOWN.out, Kept.refl _ _⟩
  case round =>
    obtain ⟨k, hk, rfl, hw⟩ := hrel
    by_cases hlt : k < p.length
    · have HW := Lib.hid hw
      obtain ⟨s, hse⟩ : ∃ s, p[k] = s := ⟨_, rfl⟩
      have hsl := HP.out p[k] (List.getElem_mem hlt)
      rw [hse] at hsl
      obtain ⟨g, cap, e1, hg, hgs⟩ := hw.own.form (by rw [pushes_length]; omega)
      injection e1 with e1 q2 q3
      clear q2 q3
      subst e1
      obtain ⟨gu, capu, e1, hgu, hgus⟩ := HU.out.form (by simp; omega)
      injection e1 with e1 q2 q3
      clear q2 q3
      subst e1
      have hne : gu ≠ g := fun e => HDI.out gu rfl (by rw [e]; rfl)
      have hgz : gu < wr.heap.size := by have := hw.kept.size; omega
      have hcu := ((HU.out.keeps hw.kept (fun j hj => by injection hj with hj; subst hj; exact HDI.out _ rfl)).atN (by simp) encI_len k (by simpa using hlt)).c1
      rw [Nat.mul_one] at hcu
      have hyet := pushes_yet (l := l) (m := m) HND.out k hlt
      rw [hse] at hyet
      have hpl2 : (pushes l (p.take k) m).length = l.length := pushes_length _ _ _
      have hat := hw.own.atN hpl2 Ac.encR_len s.1 (by omega)
      have HF := Lib.hid (hw.own.frozenN hpl2)
      have HBU := Lib.hid (fun (w2 : World) (hb : Below wr.heap.size wr w2) x => (hw.later hb).bump hpl2 s m (by omega) x)
      have hts := take_snocS p k hlt
      rw [hse] at hts
      have HTS := Lib.hid hts
      rw [List.getElem?_eq_getElem (by omega), List.getElem?_eq_getElem hsl] at hyet
      have hyet := Option.some.inj hyet
      rw [hyet] at hat HBU
      have hsm := HS.out l[s.1] (List.getElem_mem hsl)
      rw [List.getElem_map, hse] at hcu
      generalize l[s.1] = ar at *
      obtain ⟨i, f⟩ := s
      obtain ⟨fr, to, lo, hi, fl⟩ := ar
      dsimp only at *
      obtain ⟨e0, e1, e2, e3, e4⟩ := hat.c5
      obtain ⟨p4, p5, p6, p7, p8, p9⟩ := hsm
      have ff := HF.out
      clear hat hyet hw hse hts
      cases f
      · rw [code_bwd] at hcu
        have kk : -(-(i : Int) - 1) - 1 = i := by omega
        have kd : decide (-(i : Int) - 1 > 0) = false := decide_eq_false (by omega)
        have kd2 : decide (0 < -(i : Int) - 1) = false := decide_eq_false (by omega)
        go_wp2_with fail
        refine wp_region_head_drew 21 (by kernel_rfl) (by kernel_rfl) ?_
        simp only [List.take_succ_cons, List.take_zero, List.drop_succ_cons, List.drop_zero]
        repeat go_big_quiet_step (fail)
        refine wpQuiet_nil ?_
        rintro _ ⟨nq, rfl⟩
        go_wp2_with fail
        go_roundw
        case rel =>
          refine ⟨k + 1, by omega, by go_num, ?_⟩
          rw [HTS.out, pushes_snoc]
          exact HBU.out _ (below_drewN (Below.refl _ _) nq) _ rfl
        case measure => simp [intOf]; omega
      · rw [code_fwd] at hcu
        have kk : (i : Int) + 1 - 1 = i := by omega
        have kd2 : decide (0 < (i : Int) + 1) = true := decide_eq_true (by omega)
        go_wp2_with fail
        refine wp_region_head_drew 19 (by kernel_rfl) (by kernel_rfl) ?_
        simp only [List.take_succ_cons, List.take_zero, List.drop_succ_cons, List.drop_zero]
        repeat go_big_quiet_step (fail)
        refine wpQuiet_nil ?_
        rintro _ ⟨nq, rfl⟩
        go_wp2_with fail
        go_roundw
        case rel =>
          refine ⟨k + 1, by omega, by go_num, ?_⟩
          rw [HTS.out, pushes_snoc]
          exact HBU.out _ (below_drewN (Below.refl _ _) nq) _ rfl
        case measure => simp [intOf]; omega
    · obtain rfl : p.length = k := by omega
      rw [List.take_length] at hw
      have HW := Lib.hid hw
      clear hw
      go_wp2_with fail
      exact bodyPost_end (results_none rfl _ _ _) rfl ⟨rfl, HW.out⟩
end Go.Proofs.Ytlakcghdehdeiaa

/- What the reference's search has in memory. -/
namespace Go.Proofs.Ytlakcghdehdeiaa
open Go Go.Proofs Go.RowKit

structure WyW (w wr : World) (n gs Bw : Nat) (seen : List Bool) (bys : List Int) (ord : List Nat) (vw : Value) : Prop where
  below : Below w.heap.size w wr
  by' : Own encI 1 3 wr w.heap.size (.slice (some ⟨w.heap.size, 0, none⟩) n n) bys
  seenO : Own encB 1 4 wr w.heap.size (.slice (some ⟨gs, 0, none⟩) n n) seen
  work : Own encI 1 3 wr Bw vw (outI ord)
  bn : bys.length = n
  sn : seen.length = n
  gs1 : w.heap.size < gs
  gs2 : gs < Bw
  bsz : Bw ≤ wr.heap.size
section
variable {w wr w' : World} {n gs Bw : Nat} {seen : List Bool} {bys : List Int} {ord : List Nat} {vw : Value}
theorem WyW.later (h : WyW w wr n gs Bw seen bys ord vw) (hb : Below wr.heap.size wr w') : WyW w w' n gs Bw seen bys ord vw :=
  ⟨h.below.trans (hb.mono h.below.size), h.by'.later hb, h.seenO.later hb, h.work.later hb, h.bn, h.sn, h.gs1, h.gs2, Nat.le_trans h.bsz hb.size⟩
theorem WyW.alloc (h : WyW w wr n gs Bw seen bys ord vw) (o : Obj) : WyW w (wr.alloc o) n gs Bw seen bys ord vw := h.later ((Below.refl _ _).alloc (Nat.le_refl _) o)
theorem WyW.byc (h : WyW w wr n gs Bw seen bys ord vw) {i : Nat} {x : Int} (hx : bys[i]? = some x) : wr.cell? ⟨w.heap.size, i, none⟩ = some (.int .i64 x) := by
  obtain ⟨hi, e⟩ := List.getElem?_eq_some_iff.1 hx
  have := (h.by'.atN h.bn encI_len i hi).c1
  rwa [Nat.mul_one, e] at this
theorem WyW.byf (h : WyW w wr n gs Bw seen bys ord vw) (o : Nat) : wr.frozen? ⟨w.heap.size, o, none⟩ = false := h.by'.frozenN h.bn o
theorem WyW.seenc (h : WyW w wr n gs Bw seen bys ord vw) {i : Nat} (hi : i < n) : wr.cell? ⟨gs, i, none⟩ = some (.bool (seen.getD i false)) := by
  have hi' : i < seen.length := by rw [h.sn]; exact hi
  have := (h.seenO.atN h.sn encB_len i hi').c1
  rw [Nat.mul_one] at this
  rw [this, List.getD_eq_getElem?_getD, List.getElem?_eq_getElem hi']; rfl
theorem WyW.seenf (h : WyW w wr n gs Bw seen bys ord vw) (o : Nat) : wr.frozen? ⟨gs, o, none⟩ = false := h.seenO.frozenN h.sn o
theorem WyW.gsz (h : WyW w wr n gs Bw seen bys ord vw) : w.heap.size < wr.heap.size ∧ gs < wr.heap.size := by
  have := h.gs1; have := h.gs2; have := h.bsz; omega
theorem WyW.shape (h : WyW w wr n gs Bw seen bys ord vw) : ∃ a cap, vw = .slice a ord.length cap := by
  obtain ⟨a, cap, e⟩ := h.work.shape
  exact ⟨a, cap, by rw [e]; simp⟩
theorem WyW.form (h : WyW w wr n gs Bw seen bys ord vw) (h0 : 0 < ord.length) : ∃ g cap, vw = .slice (some ⟨g, 0, none⟩) ord.length cap ∧ Bw ≤ g ∧ g < wr.heap.size := by
  obtain ⟨g, cap, e, h1, h2⟩ := h.work.form (by simpa using h0)
  exact ⟨g, cap, by rw [e]; simp, h1, h2⟩
theorem WyW.workc {g cap : Nat} (h : WyW w wr n gs Bw seen bys ord (.slice (some ⟨g, 0, none⟩) ord.length cap)) {i : Nat} (hi : i < ord.length) : wr.cell? ⟨g, i, none⟩ = some (.int .i64 ord[i]) := by
  have := (h.work.atN (by simp) encI_len i (by simpa using hi)).c1
  rw [Nat.mul_one] at this
  rw [this]; simp
theorem WyW.setSeen (h : WyW w wr n gs Bw seen bys ord vw) {i : Nat} (hi : i < n) : WyW w (wr.setCell ⟨gs, i, none⟩ (.bool true)) n gs Bw (seen.set i true) bys ord vw := by
  have h1 := h.seenO.setN h.sn encB_len i (by rw [h.sn]; exact hi) 0 (by omega) (.bool true) true rfl
  rw [Nat.mul_one, Nat.add_zero] at h1
  refine ⟨h.below.setCell (by have := h.gs1; dsimp only; omega) _, h.by'.other _ (fun e => by simp [Value.ownBlock] at e; have := h.gs1; omega), h1, h.work.below _ h.gs2, h.bn, by rw [List.length_set]; exact h.sn, h.gs1, h.gs2, by have := h.bsz; simpa using this⟩
theorem WyW.setBy (h : WyW w wr n gs Bw seen bys ord vw) {i : Nat} (hi : i < n) (x : Int) : WyW w (wr.setCell ⟨w.heap.size, i, none⟩ (.int .i64 x)) n gs Bw seen (bys.set i x) ord vw := by
  have h1 := h.by'.setN h.bn encI_len i (by rw [h.bn]; exact hi) 0 (by omega) (.int .i64 x) x rfl
  rw [Nat.mul_one, Nat.add_zero] at h1
  refine ⟨h.below.setCell (Nat.le_refl _) _, h1, h.seenO.other _ (fun e => by simp [Value.ownBlock] at e; have := h.gs1; omega), h.work.below _ (by have := h.gs1; have := h.gs2; dsimp only; omega), by rw [List.length_set]; exact h.bn, h.sn, h.gs1, h.gs2, by have := h.bsz; simpa using this⟩
theorem WyW.push (h : WyW w wr n gs Bw seen bys ord vw) {vw' : Value} {x : Nat} (ho : Own encI 1 3 w' Bw vw' (outI ord ++ [(x : Int)])) (hg : wr.grownBy w' vw.ownBlock) : WyW w w' n gs Bw seen bys (ord ++ [x]) vw' := by
  have hlt := h.work.lt'
  have hb : Below w.heap.size w w' := grown_below h.below hg (by have := h.below.size; exact this) hlt (by have := h.gs1; have := h.gs2; omega)
  refine ⟨hb, h.by'.kept hg ?_, h.seenO.kept hg ?_, by simpa [outI] using ho, h.bn, h.sn, h.gs1, h.gs2, ?_⟩
  · exact .inr (fun e => by have := hlt w.heap.size (by rw [← e]; rfl); have := h.gs1; have := h.gs2; omega)
  · exact .inr (fun e => by have := hlt gs (by rw [← e]; rfl); have := h.gs2; omega)
  · exact Nat.le_trans h.bsz hg.size
end
/-- What is in memory while the way is traced back. -/
structure TrW (w wr : World) (n Bw : Nat) (bys : List Int) (vo : Value) (out : List Int) : Prop where
  below : Below w.heap.size w wr
  by' : Own encI 1 3 wr w.heap.size (.slice (some ⟨w.heap.size, 0, none⟩) n n) bys
  own : Own encI 1 3 wr Bw vo out
  bn : bys.length = n
  b1 : w.heap.size < Bw
  bsz : Bw ≤ wr.heap.size
section
variable {w wr w' : World} {n gs Bw : Nat} {seen : List Bool} {bys out : List Int} {ord : List Nat} {vw vo : Value}
theorem WyW.trace (h : WyW w wr n gs Bw seen bys ord vw) : TrW w wr n Bw bys (.slice none 0 0) [] := ⟨h.below, h.by', Own.nil _ _ _ _ _, h.bn, by have := h.gs1; have := h.gs2; omega, h.bsz⟩
theorem TrW.later (h : TrW w wr n Bw bys vo out) (hb : Below wr.heap.size wr w') : TrW w w' n Bw bys vo out := ⟨h.below.trans (hb.mono h.below.size), h.by'.later hb, h.own.later hb, h.bn, h.b1, Nat.le_trans h.bsz hb.size⟩
theorem TrW.alloc (h : TrW w wr n Bw bys vo out) (o : Obj) : TrW w (wr.alloc o) n Bw bys vo out := h.later ((Below.refl _ _).alloc (Nat.le_refl _) o)
theorem TrW.byc (h : TrW w wr n Bw bys vo out) {i : Nat} {x : Int} (hx : bys[i]? = some x) : wr.cell? ⟨w.heap.size, i, none⟩ = some (.int .i64 x) := by
  obtain ⟨hi, e⟩ := List.getElem?_eq_some_iff.1 hx
  have := (h.by'.atN h.bn encI_len i hi).c1
  rwa [Nat.mul_one, e] at this
theorem TrW.push (h : TrW w wr n Bw bys vo out) {vo' : Value} {x : Int} (ho : Own encI 1 3 w' Bw vo' (out ++ [x])) (hg : wr.grownBy w' vo.ownBlock) : TrW w w' n Bw bys vo' (out ++ [x]) := by
  have hlt := h.own.lt'
  refine ⟨grown_below h.below hg h.below.size hlt (by have := h.b1; omega), h.by'.kept hg (.inr fun e => ?_), ho, h.bn, h.b1, Nat.le_trans h.bsz hg.size⟩
  have := hlt w.heap.size (by rw [← e]; rfl)
  have := h.b1
  omega
end
end Go.Proofs.Ytlakcghdehdeiaa
