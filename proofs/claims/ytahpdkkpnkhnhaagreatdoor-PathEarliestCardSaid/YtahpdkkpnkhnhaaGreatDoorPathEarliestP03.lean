/- Lemmas on the way to the law PathEarliest (part 3): Si Sj Ua Ue -/
import Derived.Test.YtahpdkkpnkhnhaaGreatDoorPathEarliestP02
import Derived.Test.YtahpdkkpnkhnhaaGreatDoorLib29
set_option linter.unusedVariables false
set_option linter.unusedSimpArgs false

/- Walks: whether there are many tasks. -/
namespace Go.Proofs.YtahpdkkpnkhnhaaGreatDoor
open Go Go.Proofs Go.RowKit Go.Shelf
structure TkV where
  a : Option Addr
  n : Nat
  c : Nat
  g : ByteArray
  run : Int
  p : List Int
def TkV.enc (t : TkV) : List Value := [.slice t.a t.n t.c, .string t.g, .int .i64 t.run]
theorem TkV.enc_len (t : TkV) : t.enc.length = 3 := rfl
def tv0 : TkV := ⟨none, 0, 0, ⟨#[]⟩, 0, []⟩
def TkV.tk (t : TkV) : Tk := ⟨t.p, t.g, t.run⟩
structure TkF (w : World) (B : Nat) (t : TkV) : Prop where
  n : t.n ≤ 9223372036854775807
  g : t.g.size ≤ 9223372036854775807
  p : t.n ≤ 80 → Sl encI 1 w B (.slice t.a t.n t.c) t.p
def TvR (w : World) (B : Nat) (u : Value) (n : Nat) (l : List TkV) : Prop := n ≤ 20 → Sl TkV.enc 3 w B u l ∧ l.length = n ∧ ∀ t ∈ l, TkF w B t
def manyT (t : TkV) : Bool := decide (80 < t.n) || decide (40 < t.g.size)
def manyB (n N : Nat) (l : List TkV) : Bool := (decide (N < n) && decide (n ≤ 16)) || (decide (20 < n) || l.any manyT)
theorem manyB_no {w : World} {B n N : Nat} {a : Option Addr} {c : Nat} {l : List TkV} (h : manyB n N l = false) (hr : TvR w B (.slice a n c) n l) :
    n ≤ 20 ∧ (n ≤ N ∨ 16 < n) ∧ (l.map TkV.tk).length = n ∧ TasksR w B (.slice a n c) (l.map TkV.tk) ∧ SzT (l.map TkV.tk) := by
  unfold manyB at h
  simp only [Bool.or_eq_false_iff, Bool.and_eq_false_iff, decide_eq_false_iff_not] at h
  obtain ⟨h1, h2, h3⟩ := h
  obtain ⟨h4, h5, h6⟩ := hr (by omega)
  have h7 : ∀ t ∈ l, t.n ≤ 80 ∧ t.g.size ≤ 40 := fun t ht => by
    have := List.any_eq_false.1 h3 t ht
    unfold manyT at this
    simp only [Bool.or_eq_true, decide_eq_true_eq, not_or] at this
    omega
  have hml : (l.map TkV.tk).length = n := by rw [List.length_map]; exact h5
  have hpl : ∀ t ∈ l, t.p.length = t.n := fun t ht => by
    obtain ⟨_, _, e, _⟩ := (h6 t ht).p (h7 t ht).1
    injection e with e1 e2 e3
    exact e2.symm
  refine ⟨by omega, by omega, hml, ?_, ?_⟩
  · obtain ⟨a', c', e, hl, hA⟩ := h4
    rw [h5] at e hl
    cases e
    refine ⟨a, c, by rw [hml], by rw [hml]; exact hl, fun h0 => ?_⟩
    obtain ⟨b, off, e, hb, hc⟩ := hA (by rw [hml] at h0; rw [h5]; exact h0)
    refine ⟨b, off, e, hb, fun i hi => ?_⟩
    have hil : i < l.length := by rw [List.length_map] at hi; exact hi
    have hm := List.getElem_mem hil
    have h8 := hc i hil
    have h9 := (h6 _ hm).p (h7 _ hm).1
    rw [List.getElem_map]
    refine ⟨l[i].a, l[i].c, ?_, ?_⟩
    · unfold TkV.enc at h8
      unfold TkV.tk
      dsimp only
      rw [hpl _ hm]; exact h8
    · unfold TkV.tk
      dsimp only
      rw [hpl _ hm]; exact h9
  · intro t ht
    obtain ⟨x, hx, rfl⟩ := List.mem_map.1 ht
    have := (h7 x hx).2
    show x.g.size ≤ _
    omega
theorem TvR.later {w w' : World} {u : Value} {n : Nat} {l : List TkV} (h : TvR w w.heap.size u n l) (hb : Below w.heap.size w w') : TvR w' w'.heap.size u n l := fun hn => by
  obtain ⟨h1, h2, h3⟩ := h hn
  exact ⟨h1.later hb, h2, fun t ht => ⟨(h3 t ht).n, (h3 t ht).g, fun h => ((h3 t ht).p h).later hb⟩⟩
set_option maxRecDepth 100000 in
set_option maxHeartbeats 1000000 in
theorem many51 (w : World) (a : Option Addr) (n c N : Nat) (l : List TkV) (hn : n ≤ 9223372036854775807) (hN : N ≤ 16) (hr : TvR w w.heap.size (.slice a n c) n l) : Calls Tryz.prog 51 #[.slice a n c, .int .i64 N] w (Ret (.bool (manyB n N l)) w) := by
  obtain ⟨R, hR⟩ : ∃ R, manyB n N l = R := ⟨_, rfl⟩
  rw [hR]
  unfold manyB at hR
  have HR := Lib.hid hR
  have HTV := Lib.hid hr
  clear hR hr
  by_cases h1 : N < n ∧ n ≤ 16
  · have d1 : decide ((N : Int) < (n : Int)) = true := decide_eq_true (by omega)
    have d2 : decide ((n : Int) ≤ 16) = true := decide_eq_true (by omega)
    have d3 : decide (n ≤ 16) = true := decide_eq_true (by omega)
    have HV := Lib.hid (show R = true by rw [← HR.out, decide_eq_true h1.1, decide_eq_true h1.2]; rfl)
    go_enter Tryz.func51, Tryz.ntmps51
    go_wp2_with fail
    go_ret
    exact ⟨by rw [HV.out]; rfl, Below.refl _ _⟩
  by_cases h2 : 20 < n
  · have d1 : decide ((N : Int) < (n : Int)) = true := decide_eq_true (by omega)
    have d2 : decide ((n : Int) ≤ 16) = false := decide_eq_false (by omega)
    have d3 : decide ((20 : Int) < (n : Int)) = true := decide_eq_true (by omega)
    have HV := Lib.hid (show R = true by rw [← HR.out, decide_eq_true h2]; simp)
    go_enter Tryz.func51, Tryz.ntmps51
    go_wp2_with fail
    go_ret
    exact ⟨by rw [HV.out]; rfl, Below.refl _ _⟩
  have d3 : decide ((20 : Int) < (n : Int)) = false := decide_eq_false (by omega)
  have HRA := Lib.hid (show l.any manyT = R by
    rw [← HR.out, decide_eq_false h2, Bool.false_or]
    have : (decide (N < n) && decide (n ≤ 16)) = false := by
      rw [← Bool.not_eq_true, Bool.and_eq_true, decide_eq_true_eq, decide_eq_true_eq]; exact h1
    rw [this, Bool.false_or])
  obtain ⟨hsl, hln, hff⟩ := HTV.out (by omega)
  have HLN := Lib.hid hln
  have HFF := Lib.hid hff
  obtain ⟨a', c', e, hl, hA⟩ := hsl
  rw [hln] at e
  cases e
  have HA := Lib.hid hA
  clear hl hA hff hln HR HTV
  by_cases h3 : N < n
  · have d1 : decide ((N : Int) < (n : Int)) = true := decide_eq_true (by omega)
    have d2 : decide ((n : Int) ≤ 16) = false := decide_eq_false (by omega)
    go_enter Tryz.func51, Tryz.ntmps51
    go_wp2_with fail
    clear d3
    go_loopw [5] (fun i wr => ∃ k : Nat, k ≤ n ∧ i = .int .i64 k ∧ w = wr ∧ ∀ j (h : j < l.length), j < k → manyT l[j] = false) (fun i _ => n - (intOf i).toNat)
    case atStart => exact ⟨0, by omega, rfl, rfl, fun j _ h => absurd h (Nat.not_lt_zero _)⟩
    case round =>
      obtain ⟨k, hk, rfl, rfl, hno⟩ := hrel
      have HNO := Lib.hid hno
      clear hno
      by_cases hlt : k < n
      rotate_left
      · obtain rfl : n = k := by omega
        have HV := Lib.hid (show R = false by
          rw [← HRA.out, List.any_eq_false]
          intro t ht
          obtain ⟨j, hj, rfl⟩ := List.mem_iff_getElem.1 ht
          rw [HNO.out j hj (by rw [← HLN.out]; exact hj)]; simp)
        go_wp2_with fail
        go_ret
        exact ⟨by rw [HV.out]; rfl, Below.refl _ _⟩
      have hkl : k < l.length := by rw [HLN.out]; exact hlt
      obtain ⟨b, off, rfl, hb, hc⟩ := HA.out (by omega)
      have hat := hc k hkl
      unfold TkV.enc at hat
      obtain ⟨t0, t1, t2⟩ := hat.c3
      have HM := Lib.hid (List.getElem_mem hkl)
      obtain ⟨hf1, hf2, _⟩ := HFF.out _ HM.out
      have HNX := Lib.hid (show manyT l[k] = false → ∀ j (h : j < l.length), j < k + 1 → manyT l[j] = false from fun h j hj hjk => by
        rcases Nat.lt_succ_iff_lt_or_eq.1 hjk with h2 | h2
        · exact HNO.out j hj h2
        · subst h2; exact h)
      have HMT := Lib.hid (show manyT l[k] = true → R = true from fun h => by rw [← HRA.out]; exact List.any_eq_true.2 ⟨_, HM.out, h⟩)
      generalize l[k] = tk at *
      clear HM hc hat
      obtain ⟨ta, tn, tc, tg, tr, tp⟩ := tk
      unfold manyT at HNX HMT
      dsimp only at *
      have hkn : (k : Int) < (n : Int) := by omega
      by_cases h3' : 80 < tn
      · have e1 : decide ((80 : Int) < (tn : Int)) = true := decide_eq_true (by omega)
        have HV := Lib.hid (HMT.out (by rw [decide_eq_true h3']; rfl))
        go_wp2_with fail
        go_ret
        exact ⟨by rw [HV.out]; rfl, Below.refl _ _⟩
      have e1 : decide ((80 : Int) < (tn : Int)) = false := decide_eq_false (by omega)
      by_cases h4 : 40 < tg.size
      · have e2 : decide ((40 : Int) < (tg.size : Int)) = true := decide_eq_true (by omega)
        have HV := Lib.hid (HMT.out (by rw [decide_eq_true h4, Bool.or_true]))
        go_wp2_with fail
        go_ret
        exact ⟨by rw [HV.out]; rfl, Below.refl _ _⟩
      have e2 : decide ((40 : Int) < (tg.size : Int)) = false := decide_eq_false (by omega)
      have HV := Lib.hid (HNX.out (by rw [decide_eq_false h3', decide_eq_false h4]; rfl))
      go_wp2_with fail
      go_roundw
      case rel => exact ⟨k + 1, by omega, by go_num, by first | rfl | trivial, HV.out⟩
      case measure => simp [intOf]; omega
  · have d1 : decide ((N : Int) < (n : Int)) = false := decide_eq_false (by omega)
    go_enter Tryz.func51, Tryz.ntmps51
    go_wp2_with fail
    clear d3
    go_loopw [5] (fun i wr => ∃ k : Nat, k ≤ n ∧ i = .int .i64 k ∧ w = wr ∧ ∀ j (h : j < l.length), j < k → manyT l[j] = false) (fun i _ => n - (intOf i).toNat)
    case atStart => exact ⟨0, by omega, rfl, rfl, fun j _ h => absurd h (Nat.not_lt_zero _)⟩
    case round =>
      obtain ⟨k, hk, rfl, rfl, hno⟩ := hrel
      have HNO := Lib.hid hno
      clear hno
      by_cases hlt : k < n
      rotate_left
      · obtain rfl : n = k := by omega
        have HV := Lib.hid (show R = false by
          rw [← HRA.out, List.any_eq_false]
          intro t ht
          obtain ⟨j, hj, rfl⟩ := List.mem_iff_getElem.1 ht
          rw [HNO.out j hj (by rw [← HLN.out]; exact hj)]; simp)
        go_wp2_with fail
        go_ret
        exact ⟨by rw [HV.out]; rfl, Below.refl _ _⟩
      have hkl : k < l.length := by rw [HLN.out]; exact hlt
      obtain ⟨b, off, rfl, hb, hc⟩ := HA.out (by omega)
      have hat := hc k hkl
      unfold TkV.enc at hat
      obtain ⟨t0, t1, t2⟩ := hat.c3
      have HM := Lib.hid (List.getElem_mem hkl)
      obtain ⟨hf1, hf2, _⟩ := HFF.out _ HM.out
      have HNX := Lib.hid (show manyT l[k] = false → ∀ j (h : j < l.length), j < k + 1 → manyT l[j] = false from fun h j hj hjk => by
        rcases Nat.lt_succ_iff_lt_or_eq.1 hjk with h2 | h2
        · exact HNO.out j hj h2
        · subst h2; exact h)
      have HMT := Lib.hid (show manyT l[k] = true → R = true from fun h => by rw [← HRA.out]; exact List.any_eq_true.2 ⟨_, HM.out, h⟩)
      generalize l[k] = tk at *
      clear HM hc hat
      obtain ⟨ta, tn, tc, tg, tr, tp⟩ := tk
      unfold manyT at HNX HMT
      dsimp only at *
      have hkn : (k : Int) < (n : Int) := by omega
      by_cases h3' : 80 < tn
      · have e1 : decide ((80 : Int) < (tn : Int)) = true := decide_eq_true (by omega)
        have HV := Lib.hid (HMT.out (by rw [decide_eq_true h3']; rfl))
        go_wp2_with fail
        go_ret
        exact ⟨by rw [HV.out]; rfl, Below.refl _ _⟩
      have e1 : decide ((80 : Int) < (tn : Int)) = false := decide_eq_false (by omega)
      by_cases h4 : 40 < tg.size
      · have e2 : decide ((40 : Int) < (tg.size : Int)) = true := decide_eq_true (by omega)
        have HV := Lib.hid (HMT.out (by rw [decide_eq_true h4, Bool.or_true]))
        go_wp2_with fail
        go_ret
        exact ⟨by rw [HV.out]; rfl, Below.refl _ _⟩
      have e2 : decide ((40 : Int) < (tg.size : Int)) = false := decide_eq_false (by omega)
      have HV := Lib.hid (HNX.out (by rw [decide_eq_false h3', decide_eq_false h4]; rfl))
      go_wp2_with fail
      go_roundw
      case rel => exact ⟨k + 1, by omega, by go_num, by first | rfl | trivial, HV.out⟩
      case measure => simp [intOf]; omega
end Go.Proofs.YtahpdkkpnkhnhaaGreatDoor
/- Walks: the law PathSchedules. -/
namespace Go.Proofs.YtahpdkkpnkhnhaaGreatDoor
open Go Go.Proofs Go.RowKit Go.Shelf
theorem own_ni {w : World} {B : Nat} {v : Value} (h : Own encI 1 3 w B v []) : ∃ a c, v = .slice a 0 c := by
  obtain ⟨a, c, e⟩ := h.shape
  exact ⟨a, c, e⟩
theorem SchE.bad {w : World} {p : Pl} {ts : List Tk} {e : Ending} {w' : World} (h : SchE w p ts e w') (hE : ckTasks p ts ≠ 0) : ∃ a c, e = .returned (.tuple #[.slice a 0 c, .int .i64 (ckTasks p ts)]) ∧ Below w.heap.size w w' := by
  obtain ⟨v, outs, rfl, ho, hif, hb⟩ := h
  rw [if_pos hE] at hif
  subst hif
  obtain ⟨a, c, rfl⟩ := own_ni ho
  exact ⟨a, c, rfl, hb⟩
theorem SchE.good {w : World} {p : Pl} {ts : List Tk} {e : Ending} {w' : World} (h : SchE w p ts e w') (hE : ckTasks p ts = 0) : ∃ v outs, e = .returned (.tuple #[v, .int .i64 0]) ∧ Sl encI 1 w' w'.heap.size v outs ∧ outs.length = ts.length ∧ SchedR p ts outs ∧ Below w.heap.size w w' := by
  obtain ⟨v, outs, rfl, ho, hif, hb⟩ := h
  rw [if_neg (by simpa using hE)] at hif
  rw [hE]
  have := (ckTasks_ok hE).2.1
  exact ⟨v, outs, rfl, ho.toSl encI_len (by omega), hif.1, hif.2, hb⟩
theorem BehPost.sl {w : World} {l : List Int} {e : Ending} {w' : World} (h : BehPost w l e w') (hl : l.length ≤ 1000000000) : ∃ v, e = .returned v ∧ Sl encI 1 w' w'.heap.size v l ∧ Below w.heap.size w w' := by
  obtain ⟨v, rfl, ho, hb⟩ := h
  exact ⟨v, rfl, ho.toSl encI_len hl, hb⟩
end Go.Proofs.YtahpdkkpnkhnhaaGreatDoor
/- Plain: all orders of tasks, and the first of the least length. -/
namespace Go.Proofs.YtahpdkkpnkhnhaaGreatDoor
open Go Go.Proofs Go.RowKit Go.Shelf
def numsI (n : Nat) : List Int := (List.range n).map fun k : Nat => (k : Int)
def kidsO (n : Nat) (l : List Int) : List (List Int) := ((numsI n).filter fun x => !l.contains x).map fun x => l ++ [x]
def extO (n : Nat) : Nat → List Int → List (List Int)
  | 0, l => [l]
  | r + 1, l => (kidsO n l).flatMap (extO n r)
def levO (n : Nat) : Nat → List (List Int)
  | 0 => [[]]
  | k + 1 => (levO n k).flatMap (kidsO n)
theorem lev_ext (n : Nat) : ∀ k r, (levO n k).flatMap (extO n r) = extO n (k + r) []
  | 0, r => by simp [levO]
  | k + 1, r => by
    show ((levO n k).flatMap (kidsO n)).flatMap (extO n r) = _
    rw [List.flatMap_assoc]
    have := lev_ext n k (r + 1)
    rw [show k + 1 + r = k + (r + 1) by omega, ← this]
    rfl
theorem lev_all (n k : Nat) : levO n k = extO n k [] := by
  have := lev_ext n k 0
  rw [Nat.add_zero] at this
  rw [← this]
  show levO n k = (levO n k).flatMap fun l => [l]
  rw [List.flatMap_singleton']
theorem numsI_len (n : Nat) : (numsI n).length = n := by simp [numsI]
theorem numsI_at (n k : Nat) (h : k < n) : (numsI n)[k]'(by rw [numsI_len]; exact h) = (k : Int) := by simp [numsI]
theorem mem_numsI {n : Nat} {x : Int} : x ∈ numsI n ↔ 0 ≤ x ∧ x < n := by
  unfold numsI
  rw [List.mem_map]
  constructor
  · rintro ⟨k, hk, rfl⟩
    have := List.mem_range.1 hk
    omega
  · rintro ⟨h1, h2⟩
    exact ⟨x.toNat, List.mem_range.2 (by omega), by omega⟩
structure OrdK (n k : Nat) (l : List Int) : Prop where
  len : l.length = k
  ins : ∀ x ∈ l, 0 ≤ x ∧ x < n
  nd : l.Nodup
theorem OrdK.nil (n : Nat) : OrdK n 0 [] := ⟨rfl, fun x h => (by cases h), List.nodup_nil⟩
theorem OrdK.snoc {n k : Nat} {l : List Int} (h : OrdK n k l) {x : Int} (hx : 0 ≤ x ∧ x < n) (hc : x ∉ l) : OrdK n (k + 1) (l ++ [x]) := by
  refine ⟨by rw [List.length_append, h.len]; rfl, fun y hy => ?_, ?_⟩
  · rcases List.mem_append.1 hy with hy | hy
    · exact h.ins y hy
    · rw [List.mem_singleton] at hy; subst hy; exact hx
  · rw [List.nodup_append]
    exact ⟨h.nd, by simp, fun a ha b hb e => by rw [List.mem_singleton] at hb; subst hb; subst e; exact hc ha⟩
theorem OrdK.kid {n k : Nat} {l l' : List Int} (h : OrdK n k l) (hl : l' ∈ kidsO n l) : OrdK n (k + 1) l' := by
  unfold kidsO at hl
  obtain ⟨x, hx, rfl⟩ := List.mem_map.1 hl
  obtain ⟨h1, h2⟩ := List.mem_filter.1 hx
  exact h.snoc (mem_numsI.1 h1) (by simpa using h2)
theorem lev_ord (n : Nat) : ∀ k, ∀ l ∈ levO n k, OrdK n k l
  | 0, l, hl => by
    simp only [levO, List.mem_singleton] at hl
    subst hl
    exact OrdK.nil n
  | k + 1, l, hl => by
    obtain ⟨l', h1, h2⟩ := List.mem_flatMap.1 hl
    exact (lev_ord n k l' h1).kid h2
theorem lev_mem {n : Nat} : ∀ {k : Nat} {l : List Int}, OrdK n k l → l ∈ levO n k
  | 0, l, h => by
    have := List.eq_nil_of_length_eq_zero h.len
    subst this
    simp [levO]
  | k + 1, l, h => by
    have hne : l ≠ [] := by intro e; have := h.len; rw [e] at this; cases this
    have e := List.dropLast_concat_getLast hne
    obtain ⟨l', x, rfl⟩ : ∃ l' x, l = l' ++ [x] := ⟨l.dropLast, l.getLast hne, e.symm⟩
    have hnd := List.nodup_append.1 h.nd
    refine List.mem_flatMap.2 ⟨l', lev_mem ⟨?_, fun y hy => h.ins y (by simp [hy]), hnd.1⟩, ?_⟩
    · have := h.len; rw [List.length_append] at this; simpa using this
    · unfold kidsO
      refine List.mem_map.2 ⟨x, List.mem_filter.2 ⟨mem_numsI.2 (h.ins x (by simp)), ?_⟩, rfl⟩
      have : x ∉ l' := fun hx => hnd.2.2 x hx x (by simp) rfl
      simpa using this
theorem OrdK.le {n k : Nat} {l : List Int} (h : OrdK n k l) : k ≤ n := by
  have h1 : (l.map Int.toNat).Nodup := by
    rw [List.nodup_iff_pairwise_ne, List.pairwise_map]
    refine List.Pairwise.imp_of_mem ?_ (List.nodup_iff_pairwise_ne.1 h.nd)
    intro a b ha hb hab e
    have := h.ins a ha
    have := h.ins b hb
    exact hab (by omega)
  have h2 : (l.map Int.toNat).length ≤ (List.range n).length := h1.length_le_of_subset fun x hx => by
    obtain ⟨y, hy, rfl⟩ := List.mem_map.1 hx
    have := h.ins y hy
    exact List.mem_range.2 (by omega)
  have := h.len
  simp at h2
  omega
def updO (f : List Int → Int) (s : List Int × Int) (l : List Int) : List Int × Int := if s.2 < 0 ∨ f l < s.2 then (l, f l) else s
def bestO (f : List Int → Int) (L : List (List Int)) : List Int × Int := L.foldl (updO f) ([], -1)
theorem fold_ext (f : List Int → Int) (n r : Nat) (l : List Int) (s : List Int × Int) : (extO n (r + 1) l).foldl (updO f) s = (kidsO n l).foldl (fun s l' => (extO n r l').foldl (updO f) s) s := by
  show ((kidsO n l).flatMap (extO n r)).foldl (updO f) s = _
  generalize kidsO n l = K
  induction K generalizing s with
  | nil => rfl
  | cons a K ih => rw [List.flatMap_cons, List.foldl_append, ih]; rfl
structure BestK (f : List Int → Int) (L : List (List Int)) (s : List Int × Int) : Prop where
  none : L = [] → s = ([], -1)
  some : L ≠ [] → s.1 ∈ L ∧ s.2 = f s.1 ∧ ∀ l ∈ L, s.2 ≤ f l
theorem bestK (f : List Int → Int) (L : List (List Int)) (h0 : ∀ l ∈ L, 0 ≤ f l) : BestK f L (bestO f L) := by
  have key : ∀ (L2 L1 : List (List Int)) (s : List Int × Int), (∀ l ∈ L1 ++ L2, 0 ≤ f l) → BestK f L1 s → BestK f (L1 ++ L2) (L2.foldl (updO f) s) := by
    intro L2
    induction L2 with
    | nil => intro L1 s _ h; rw [List.append_nil]; exact h
    | cons a L2 ih =>
      intro L1 s hp h
      have e : L1 ++ a :: L2 = (L1 ++ [a]) ++ L2 := by simp
      rw [e, List.foldl_cons]
      refine ih (L1 ++ [a]) _ (by rw [← e]; exact hp) ⟨fun h => by simp at h, fun _ => ?_⟩
      have ha := hp a (by simp)
      unfold updO
      by_cases hL : L1 = []
      · have hs := h.none hL
        subst hL hs
        rw [if_pos (.inl (by show (-1 : Int) < 0; omega))]
        refine ⟨by simp, rfl, fun l hl => ?_⟩
        simp at hl; subst hl; exact Int.le_refl _
      · obtain ⟨h1, h2, h3⟩ := h.some hL
        have hs0 := hp s.1 (by simp [h1])
        by_cases hc : f a < s.2
        · rw [if_pos (.inr hc)]
          refine ⟨by simp, rfl, fun l hl => ?_⟩
          rcases List.mem_append.1 hl with hl | hl
          · have := h3 l hl; show f a ≤ f l; omega
          · rw [List.mem_singleton] at hl; subst hl; exact Int.le_refl _
        · rw [if_neg (by omega)]
          refine ⟨by simp [h1], h2, fun l hl => ?_⟩
          rcases List.mem_append.1 hl with hl | hl
          · exact h3 l hl
          · rw [List.mem_singleton] at hl; subst hl; omega
  have := key L [] ([], -1) (by simpa using h0) ⟨fun _ => rfl, fun h => absurd rfl h⟩
  simpa [bestO] using this
noncomputable def stO (p : Pl) (ts : List Tk) : List Int := Classical.choose (sched_ex p ts ts.length)
theorem stO_len (p : Pl) (ts : List Tk) : (stO p ts).length = ts.length := (Classical.choose_spec (sched_ex p ts ts.length)).1
theorem stO_R (p : Pl) (ts : List Tk) : SchedR p ts (stO p ts) := (Classical.choose_spec (sched_ex p ts ts.length)).2
theorem stO_eq {p : Pl} {ts : List Tk} {outs : List Int} (h : SchedR p ts outs) (hl : outs.length = ts.length) : outs = stO p ts := h.unique (stO_R p ts) (hl.trans (stO_len p ts).symm)
noncomputable def lenF (p : Pl) (ts : List Tk) : Int := lenT p ts (stO p ts) ts.length
def ordT (ts : List Tk) (l : List Int) : List Tk := l.map fun k => ts.getD k.toNat tk0
noncomputable def lenO (p : Pl) (ts : List Tk) (l : List Int) : Int := lenF p (ordT ts l)
theorem ordT_len (ts : List Tk) (l : List Int) : (ordT ts l).length = l.length := by simp [ordT]
theorem ordT_mem {ts : List Tk} {l : List Int} (h : ∀ x ∈ l, 0 ≤ x ∧ x < ts.length) : ∀ t ∈ ordT ts l, t ∈ ts := by
  intro t ht
  obtain ⟨k, hk, rfl⟩ := List.mem_map.1 ht
  have := h k hk
  rw [tkGet (by omega)]
  exact List.getElem_mem _
end Go.Proofs.YtahpdkkpnkhnhaaGreatDoor
/- Walks: Ordered. -/
namespace Go.Proofs.YtahpdkkpnkhnhaaGreatDoor
open Go Go.Proofs Go.RowKit Go.Shelf
structure TkH where
  a : Option Addr
  c : Nat
  t : Tk
def TkH.enc (h : TkH) : List Value := [.slice h.a h.t.path.length h.c, .string h.t.grain, .int .i64 h.t.run]
theorem TkH.enc_len (h : TkH) : h.enc.length = 3 := rfl
theorem TkH.enc_one (h : TkH) : ∀ u ∈ h.enc, u.oneCell' = true := by
  intro u hu
  simp [TkH.enc] at hu
  rcases hu with rfl | rfl | rfl <;> rfl
def th0 : TkH := ⟨none, 0, tk0⟩
def HeadsR (w : World) (B : Nat) (L : List TkH) : Prop := ∀ h ∈ L, Sl encI 1 w B (.slice h.a h.t.path.length h.c) h.t.path
theorem HeadsR.later {w w' : World} {L : List TkH} (h : HeadsR w w.heap.size L) (hb : Below w.heap.size w w') : HeadsR w' w'.heap.size L := fun x hx => (h x hx).later hb
theorem infoTk : (Tryz.prog.info? 114).map (fun i => (i.zero, i.size, i.bytes)) = some (some (.agg #[.slice none 0 0, .string ⟨#[]⟩, .int .i64 0]), 3, 48) := by kernel_rfl
theorem TasksR.heads {w : World} {B : Nat} {v : Value} {ts : List Tk} (h : TasksR w B v ts) : ∃ L : List TkH, L.map TkH.t = ts ∧ Sl TkH.enc 3 w B v L ∧ HeadsR w B L := by
  obtain ⟨a, c, rfl, hl, hA⟩ := h
  by_cases h0 : 0 < ts.length
  rotate_left
  · have : ts = [] := List.eq_nil_of_length_eq_zero (by omega)
    subst this
    exact ⟨[], rfl, ⟨a, c, rfl, hl, fun h => absurd h (by simp)⟩, fun x hx => by cases hx⟩
  obtain ⟨b, off, rfl, hb, hc⟩ := hA h0
  have hch : ∃ g : Nat → TkH, ∀ i (h : i < ts.length), (g i).t = ts[i] ∧ At w b (off + i * 3) (g i).enc ∧ Sl encI 1 w B (.slice (g i).a (g i).t.path.length (g i).c) (g i).t.path := by
    refine ⟨fun i => if h : i < ts.length then ⟨Classical.choose (hc i h), Classical.choose (Classical.choose_spec (hc i h)), ts[i]⟩ else th0, fun i h => ?_⟩
    simp only [dif_pos h]
    have := Classical.choose_spec (Classical.choose_spec (hc i h))
    exact ⟨by first | trivial | rfl, this.1, this.2⟩
  obtain ⟨g, hg⟩ := hch
  have hlen : ((List.range ts.length).map g).length = ts.length := by simp
  refine ⟨(List.range ts.length).map g, ?_, ⟨some ⟨b, off, none⟩, c, by rw [hlen], by rw [hlen]; exact hl, fun _ => ⟨b, off, rfl, hb, fun i hi => ?_⟩⟩, fun x hx => ?_⟩
  · refine List.ext_getElem (by simp) fun i h1 h2 => ?_
    simp only [List.map_map, List.getElem_map, List.getElem_range, Function.comp]
    exact (hg i h2).1
  · rw [hlen] at hi
    rw [List.getElem_map, List.getElem_range]
    exact (hg i hi).2.1
  · obtain ⟨i, hi, rfl⟩ := List.mem_map.1 hx
    exact (hg i (List.mem_range.1 hi)).2.2
theorem heads_tasks {w : World} {B : Nat} {v : Value} {L : List TkH} (h : Sl TkH.enc 3 w B v L) (hr : HeadsR w B L) : TasksR w B v (L.map TkH.t) := by
  obtain ⟨a, c, rfl, hl, hA⟩ := h
  refine ⟨a, c, by rw [List.length_map], by rw [List.length_map]; exact hl, fun h0 => ?_⟩
  rw [List.length_map] at h0
  obtain ⟨b, off, rfl, hb, hc⟩ := hA h0
  refine ⟨b, off, rfl, hb, fun i hi => ?_⟩
  rw [List.getElem_map]
  rw [List.length_map] at hi
  exact ⟨(L[i]).a, (L[i]).c, hc i hi, hr _ (List.getElem_mem hi)⟩
def ordH (L : List TkH) (o : List Int) : List TkH := o.map fun k => L.getD k.toNat th0
theorem ordH_map (L : List TkH) (o : List Int) : (ordH L o).map TkH.t = ordT (L.map TkH.t) o := by
  unfold ordH ordT
  rw [List.map_map]
  refine List.map_congr_left fun k _ => ?_
  show (L.getD k.toNat th0).t = (L.map TkH.t).getD k.toNat tk0
  rw [List.getD_eq_getElem?_getD, List.getD_eq_getElem?_getD, List.getElem?_map]
  cases L[k.toNat]? <;> rfl
theorem ordH_mem {L : List TkH} {o : List Int} (h : ∀ x ∈ o, 0 ≤ x ∧ x < L.length) : ∀ t ∈ ordH L o, t ∈ L := by
  intro t ht
  obtain ⟨k, hk, rfl⟩ := List.mem_map.1 ht
  have := h k hk
  rw [List.getD_eq_getElem?_getD, List.getElem?_eq_getElem (by omega)]
  exact List.getElem_mem _
theorem ordH_take (L : List TkH) (o : List Int) (k : Nat) (h : k < o.length) (j : Nat) (hj : o[k] = (j : Int)) (hl : j < L.length) : ordH L (o.take (k + 1)) = ordH L (o.take k) ++ [L[j]] := by
  unfold ordH
  rw [List.take_add_one, List.getElem?_eq_getElem h, List.map_append]
  simp only [Option.toList, List.map_cons, List.map_nil, hj, Int.toNat_natCast]
  rw [List.getD_eq_getElem?_getD, List.getElem?_eq_getElem hl, Option.getD_some]
def OrdPost (w : World) (ts : List Tk) (o : List Int) (e : Ending) (w' : World) : Prop := ∃ v, e = .returned v ∧ TasksR w' w'.heap.size v (ordT ts o) ∧ Below w.heap.size w w'
set_option maxRecDepth 100000 in
set_option maxHeartbeats 1000000 in
theorem ordered76 (w : World) (v s : Value) (ts : List Tk) (o : List Int) (hv : TasksR w w.heap.size v ts) (hs : Sl encI 1 w w.heap.size s o) (hin : ∀ x ∈ o, 0 ≤ x ∧ x < ts.length) (hl : o.length ≤ 1000) :
    Calls Tryz.prog 76 #[v, s] w (OrdPost w ts o) := by
  obtain ⟨LH, rfl, hsl, hhr⟩ := hv.heads
  rw [List.length_map] at hin
  obtain ⟨Q, hQ⟩ : ∃ Q, OrdPost w (LH.map TkH.t) o = Q := ⟨_, rfl⟩
  rw [hQ]
  have HQ : Hid (∀ (v : Value) (w' : World), Own TkH.enc 3 114 w' w.heap.size v (ordH LH o) → Below w.heap.size w w' → Q (.returned v) w') := Lib.hid (fun v w' h1 h2 => by
    rw [← hQ]
    have := heads_tasks (h1.toSl TkH.enc_len (by unfold ordH; rw [List.length_map]; omega)) (L := ordH LH o) (fun h hh => (hhr h (ordH_mem hin h hh)).later h2)
    rw [ordH_map] at this
    exact ⟨v, rfl, this, h2⟩)
  clear hQ hv hhr
  have HIN := Lib.hid hin
  obtain ⟨a1, c1, rfl, hl1, hA1⟩ := hsl
  obtain ⟨a2, c2, rfl, hl2, hA2⟩ := hs
  have HA1 := Lib.hid hA1
  have HA2 := Lib.hid hA2
  clear hA1 hA2 hin
  obtain ⟨n, hn⟩ : ∃ n, LH.length = n := ⟨_, rfl⟩
  obtain ⟨m, hm⟩ : ∃ m, o.length = m := ⟨_, rfl⟩
  rw [hn] at hl1 ⊢
  rw [hm] at hl2 hl ⊢
  have HN := Lib.hid hn
  have HM := Lib.hid hm
  clear hn hm
  have HT : Hid (Tryz.prog.underlying 73 = some (.slice 114)) := Lib.hid Tryz.underlying73
  have HI := Lib.hid infoTk
  go_enter Tryz.func76, Tryz.ntmps76
  go_wp2_with fail
  go_loopw [5, 6] (fun v i wr => ∃ k : Nat, k ≤ m ∧ i = .int .i64 k ∧ Own TkH.enc 3 114 wr w.heap.size v (ordH LH (o.take k)) ∧ Below w.heap.size w wr) (fun _ i _ => m - (intOf i).toNat)
  case atStart => exact ⟨0, by omega, rfl, Own.nil _ _ _ _ _, Below.refl _ _⟩
  case round =>
    obtain ⟨k, hk, rfl, hown, hbe⟩ := hrel
    have HOV := Lib.hid hown
    have HBE := Lib.hid hbe
    clear hown hbe
    by_cases hlt : k < m
    rotate_left
    · obtain rfl : m = k := by omega
      have HOF := Lib.hid (show Own TkH.enc 3 114 wr w.heap.size _ (ordH LH o) from by
        have h := HOV.out
        rw [List.take_of_length_le (by rw [HM.out]; omega)] at h
        exact h)
      go_wp2_with fail
      exact HQ.out _ _ HOF.out HBE.out
    have hkl : k < o.length := by rw [HM.out]; exact hlt
    obtain ⟨b2, o2, rfl, hbb2, hc2⟩ := HA2.out (by omega)
    have l0 := ((hc2 k hkl).below HBE.out hbb2).c1
    rw [Nat.mul_one] at l0
    have hb2z : b2 < wr.heap.size := Nat.lt_of_lt_of_le hbb2 HBE.out.size
    obtain ⟨h1, h2⟩ := HIN.out _ (List.getElem_mem hkl)
    obtain ⟨j, hj⟩ : ∃ j : Nat, o[k] = (j : Int) := ⟨o[k].toNat, by omega⟩
    have hjl : j < LH.length := by omega
    have HTK := Lib.hid (ordH_take LH o k hkl j hj hjl)
    rw [hj] at l0
    obtain ⟨b1, o1, rfl, hbb1, hc1⟩ := HA1.out (by omega)
    obtain ⟨q0, q1, q2⟩ := ((hc1 j hjl).below HBE.out hbb1).c3
    have hb1z : b1 < wr.heap.size := Nat.lt_of_lt_of_le hbb1 HBE.out.size
    have HLK : Hid ((ordH LH (o.take k)).length ≤ 1000000) := Lib.hid (by unfold ordH; rw [List.length_map, List.length_take]; omega)
    have hjn : (j : Int) < (n : Int) := by rw [← HN.out]; omega
    clear hc1 hc2 h1 h2 hj
    generalize LH[j] = x at *
    obtain ⟨xa, xc, xt⟩ := x
    dsimp only at q0 q1 q2
    go_wp2_with (at_builtin; refine wpList_push TkH.enc 3 48 73 114 _ HT.out HI.out rfl (by decide) (by decide) TkH.enc_len TkH.enc_one _ (⟨xa, xc, xt⟩ : TkH) w.heap.size wr _ rfl _ HOV.out HBE.out.size HLK.out rfl _ _ rfl rfl rfl ?_; intro v' w' hown' hg'; have HOW := Lib.hid hown'; have HGR := Lib.hid (grown_below HBE.out hg' HBE.out.size (HOV.out.lt') (Nat.le_refl _)); clear hown' hg')
    go_roundw
    case rel => exact ⟨k + 1, by omega, by go_num, by rw [HTK.out]; exact HOW.out, HGR.out⟩
    case measure => simp [intOf]; omega
end Go.Proofs.YtahpdkkpnkhnhaaGreatDoor
