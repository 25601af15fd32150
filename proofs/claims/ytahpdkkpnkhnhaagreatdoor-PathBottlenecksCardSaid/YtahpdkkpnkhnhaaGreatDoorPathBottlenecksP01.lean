/- Lemmas on the way to the law PathBottlenecks (part 1): Ga Gb Pa Ta -/
import Derived.Test.YtahpdkkpnkhnhaaGreatDoorBA21
import Derived.Test.YtahpdkkpnkhnhaaGreatDoorBA27
set_option linter.unusedVariables false
set_option linter.unusedSimpArgs false

/- Plain: what Route finds: ways of the least time. -/
namespace Go.Proofs.YtahpdkkpnkhnhaaGreatDoor
open Go Go.Proofs Go.RowKit Go.Shelf
def StepR (p : Pl) (bl : List Int) (to m x : Int) : Prop := (⟨m, x⟩ : Ar) ∈ p.arcs ∧ m ≠ to ∧ (x = to ∨ cvB (kdA p x) = true) ∧ x ∉ bl
inductive WayT (p : Pl) (bl : List Int) (to fr : Int) : Int → Int → Prop
  | start : WayT p bl to fr fr 1
  | step {m x t : Int} : WayT p bl to fr m t → StepR p bl to m x → WayT p bl to fr x (t + tAt p x)
def bst (s : RtS) (x : Int) : Int := s.best.getD x.toNat 0
def bfr (s : RtS) (x : Int) : Int := s.before.getD x.toNat 0
def hitR (p : Pl) (bl : List Int) (to m : Int) (s : RtS) (x : Int) : Prop := ((x = to ∨ cvB (kdA p x) = true) ∧ x ∉ bl) ∧ (bst s x = 0 ∨ bst s m + tAt p x < bst s x)
instance hitR_dec (p : Pl) (bl : List Int) (to m : Int) (s : RtS) (x : Int) : Decidable (hitR p bl to m s x) := by unfold hitR; exact inferInstance
theorem relaxB_hit (p : Pl) (bl : List Int) (to m : Int) (s : RtS) (x : Int) : relaxB p bl to m s x = true ↔ hitR p bl to m s x := by
  unfold relaxB hitR bst
  simp only [Bool.and_eq_true, Bool.or_eq_true, beq_iff_eq, Bool.not_eq_true', decide_eq_true_eq, List.contains_eq_mem, decide_eq_false_iff_not]
theorem bst_set (s : RtS) {x y v : Int} (b : List Int) (d : List Bool) (h1 : s.best.length = 64) (hx : 0 ≤ x ∧ x < 64) (hy : 0 ≤ y) : bst ⟨s.best.set x.toNat v, b, d⟩ y = if x = y then v else bst s y := by
  unfold bst
  rw [getD_setF _ _ _ _ _ (by omega)]
  by_cases e : x = y
  · subst e; rw [if_pos rfl, if_pos rfl]
  · rw [if_neg e, if_neg (by omega)]
theorem bfr_set (s : RtS) {x y v : Int} (b : List Int) (d : List Bool) (h1 : s.before.length = 64) (hx : 0 ≤ x ∧ x < 64) (hy : 0 ≤ y) : bfr ⟨b, s.before.set x.toNat v, d⟩ y = if x = y then v else bfr s y := by
  unfold bfr
  rw [getD_setF _ _ _ _ _ (by omega)]
  by_cases e : x = y
  · subst e; rw [if_pos rfl, if_pos rfl]
  · rw [if_neg e, if_neg (by omega)]
theorem relax_get {p : Pl} {bl : List Int} {to m x : Int} {s : RtS} (h1 : s.best.length = 64) (h2 : s.before.length = 64) (hx : 0 ≤ x ∧ x < 64) (y : Int) (hy : 0 ≤ y) :
    (bst (relax p bl to m s x) y = if x = y ∧ hitR p bl to m s x then bst s m + tAt p x else bst s y) ∧ (bfr (relax p bl to m s x) y = if x = y ∧ hitR p bl to m s x then m else bfr s y) ∧
      (relax p bl to m s x).best.length = 64 ∧ (relax p bl to m s x).before.length = 64 := by
  unfold relax
  by_cases h : relaxB p bl to m s x = true
  · have hh := (relaxB_hit p bl to m s x).1 h
    rw [if_pos h]
    refine ⟨?_, ?_, by rw [List.length_set]; exact h1, by rw [List.length_set]; exact h2⟩
    · rw [bst_set s _ _ h1 hx hy]
      by_cases e : x = y
      · rw [if_pos e, if_pos ⟨e, hh⟩]; rfl
      · rw [if_neg e, if_neg (fun h => e h.1)]
    · rw [bfr_set s _ _ h2 hx hy]
      by_cases e : x = y
      · rw [if_pos e, if_pos ⟨e, hh⟩]
      · rw [if_neg e, if_neg (fun h => e h.1)]
  · have hh : ¬ hitR p bl to m s x := fun k => h ((relaxB_hit p bl to m s x).2 k)
    rw [if_neg h]
    exact ⟨by rw [if_neg (fun k => hh k.2)], by rw [if_neg (fun k => hh k.2)], h1, h2⟩
theorem relaxs_get {p : Pl} {bl : List Int} {to m : Int} (hm : 0 ≤ m) : ∀ (l : List Int) (s : RtS), s.best.length = 64 → s.before.length = 64 → 0 < bst s m → (∀ x ∈ l, 0 ≤ x ∧ x < 64 ∧ x ≠ m ∧ 0 ≤ tAt p x) → ∀ y, 0 ≤ y →
    (bst (l.foldl (relax p bl to m) s) y = if y ∈ l ∧ hitR p bl to m s y then bst s m + tAt p y else bst s y) ∧ (bfr (l.foldl (relax p bl to m) s) y = if y ∈ l ∧ hitR p bl to m s y then m else bfr s y) ∧
      (l.foldl (relax p bl to m) s).best.length = 64 ∧ (l.foldl (relax p bl to m) s).before.length = 64
  | [], s, h1, h2, _, _, y, _ => ⟨by simp, by simp, h1, h2⟩
  | x :: l, s, h1, h2, h3, hl, y, hy => by
    obtain ⟨hx0, hx1, hxm, hxt⟩ := hl x (by simp)
    obtain ⟨r1, r2, r3, r4⟩ := relax_get (p := p) (bl := bl) (to := to) (m := m) h1 h2 ⟨hx0, hx1⟩ y hy
    obtain ⟨m1, _, _, _⟩ := relax_get (p := p) (bl := bl) (to := to) (m := m) h1 h2 ⟨hx0, hx1⟩ m hm
    rw [if_neg (fun h => hxm h.1)] at m1
    obtain ⟨i1, i2, i3, i4⟩ := relaxs_get (p := p) (bl := bl) (to := to) hm l (relax p bl to m s x) r3 r4 (by rw [m1]; exact h3) (fun z hz => hl z (by simp [hz])) y hy
    rw [List.foldl_cons]
    refine ⟨?_, ?_, i3, i4⟩
    · rw [i1, m1]
      by_cases e : x = y
      · subst e
        by_cases hh : hitR p bl to m s x
        · rw [if_pos ⟨rfl, hh⟩] at r1
          rw [if_neg (fun k => by have := k.2.2; rw [m1, r1] at this; omega), r1, if_pos ⟨by simp, hh⟩]
        · rw [if_neg (fun k => hh k.2)] at r1
          rw [if_neg (fun k => hh (by have := k.2; unfold hitR at this ⊢; rw [m1, r1] at this; exact this)), r1, if_neg (fun k => hh k.2)]
      · rw [if_neg (fun k => e k.1)] at r1
        have hiff : hitR p bl to m (relax p bl to m s x) y ↔ hitR p bl to m s y := by unfold hitR; rw [m1, r1]
        rw [r1]
        by_cases hh : y ∈ l ∧ hitR p bl to m s y
        · rw [if_pos ⟨hh.1, hiff.2 hh.2⟩, if_pos ⟨by simp [hh.1], hh.2⟩]
        · rw [if_neg (fun k => hh ⟨k.1, hiff.1 k.2⟩), if_neg (fun k => hh ⟨by rcases List.mem_cons.1 k.1 with h | h; exact absurd h.symm e; exact h, k.2⟩)]
    · rw [i2]
      by_cases e : x = y
      · subst e
        by_cases hh : hitR p bl to m s x
        · rw [if_pos ⟨rfl, hh⟩] at r1 r2
          rw [if_neg (fun k => by have := k.2.2; rw [m1, r1] at this; omega), r2, if_pos ⟨by simp, hh⟩]
        · rw [if_neg (fun k => hh k.2)] at r1 r2
          rw [if_neg (fun k => hh (by have := k.2; unfold hitR at this ⊢; rw [m1, r1] at this; exact this)), r2, if_neg (fun k => hh k.2)]
      · rw [if_neg (fun k => e k.1)] at r1 r2
        have hiff : hitR p bl to m (relax p bl to m s x) y ↔ hitR p bl to m s y := by unfold hitR; rw [m1, r1]
        rw [r2]
        by_cases hh : y ∈ l ∧ hitR p bl to m s y
        · rw [if_pos ⟨hh.1, hiff.2 hh.2⟩, if_pos ⟨by simp [hh.1], hh.2⟩]
        · rw [if_neg (fun k => hh ⟨k.1, hiff.1 k.2⟩), if_neg (fun k => hh ⟨by rcases List.mem_cons.1 k.1 with h | h; exact absurd h.symm e; exact h, k.2⟩)]
theorem pickTo_min (s : RtS) : ∀ (k j : Nat), j < k → 0 < s.best.getD j 0 → s.done.getD j false = false → 0 ≤ pickTo s k ∧ s.best.getD (pickTo s k).toNat 0 ≤ s.best.getD j 0
  | k + 1, j, hj, h1, h2 => by
    unfold pickTo pickS
    by_cases e : j = k
    · subst e
      split
      · rw [Int.toNat_natCast]; omega
      · rename_i hno
        by_cases hp : pickTo s j < 0
        · exact absurd ⟨h1, h2, .inl hp⟩ hno
        · refine ⟨by omega, Int.not_lt.1 fun hlt => hno ⟨h1, h2, .inr hlt⟩⟩
    · obtain ⟨i1, i2⟩ := pickTo_min s k j (by omega) h1 h2
      split
      · rename_i hc
        rw [Int.toNat_natCast]
        rcases hc.2.2 with h | h
        · omega
        · omega
      · exact ⟨i1, i2⟩
structure DjR (p : Pl) (bl : List Int) (to fr : Int) (s : RtS) (ord : List Int) : Prop where
  l1 : s.best.length = 64
  l2 : s.before.length = 64
  l3 : s.done.length = 64
  nd : ord.Nodup
  oin : ∀ x ∈ ord, 0 ≤ x ∧ x < p.ms.length
  od : ∀ x : Int, 0 ≤ x → x < 64 → (s.done.getD x.toNat false = true ↔ x ∈ ord)
  b0 : bst s fr = 1
  nn : ∀ x, 0 ≤ x → 0 ≤ bst s x
  pre : ∀ x, 0 ≤ x → x ≠ fr → 0 < bst s x → bfr s x ∈ ord ∧ StepR p bl to (bfr s x) x ∧ bst s x = bst s (bfr s x) + tAt p x ∧ (x ∈ ord → ord.idxOf (bfr s x) < ord.idxOf x)
  cls : ∀ m ∈ ord, ∀ x, StepR p bl to m x → 0 < bst s x ∧ bst s x ≤ bst s m + tAt p x
  low : ∀ m ∈ ord, ∀ x, 0 ≤ x → x ∉ ord → 0 < bst s x → bst s m ≤ bst s x
  pos : ∀ m ∈ ord, 0 < bst s m ∧ m ≠ to
theorem step_in {p : Pl} (hok : OkP p) {bl : List Int} {to m x : Int} (h : StepR p bl to m x) : (0 ≤ m ∧ m < p.ms.length) ∧ (0 ≤ x ∧ x < p.ms.length) ∧ m ≠ x ∧ 0 ≤ tAt p x := by
  obtain ⟨h1, h2, h3, _, _⟩ := hok.ins _ h.1
  dsimp only at h1 h2 h3
  unfold inN at h1 h2
  simp only [Bool.and_eq_true, decide_eq_true_eq] at h1 h2
  refine ⟨h1, h2, h3, ?_⟩
  obtain ⟨k, rfl⟩ : ∃ k : Nat, x = k := ⟨x.toNat, by omega⟩
  have hk : k < p.ms.length := by omega
  rw [tAt_nat hk]
  exact (hok.times _ (List.getElem_mem hk)).1
theorem DjR.start {p : Pl} (hok : OkP p) (bl : List Int) (to fr : Int) (hf : 0 ≤ fr ∧ fr < p.ms.length) : DjR p bl to fr (start18 fr) [] := by
  have hle := hok.le
  have hb : ∀ x, 0 ≤ x → bst (start18 fr) x = if fr = x then 1 else 0 := fun x hx => by
    have := bst_set ⟨List.replicate 64 0, List.replicate 64 0, List.replicate 64 false⟩ (x := fr) (y := x) (v := 1) (List.replicate 64 0) (List.replicate 64 false) (by simp) (by omega) hx
    unfold start18
    rw [this]
    congr 1
    unfold bst
    rw [List.getD_eq_getElem?_getD, List.getElem?_replicate]
    split <;> rfl
  refine ⟨by simp [start18], by simp [start18], by simp [start18], List.nodup_nil, by simp, fun x h1 h2 => ?_, by rw [hb fr hf.1, if_pos rfl], fun x hx => by rw [hb x hx]; split <;> omega, fun x hx hne h => ?_, by simp, by simp, by simp⟩
  · simp only [start18, List.not_mem_nil, iff_false, Bool.not_eq_true]
    rw [List.getD_eq_getElem?_getD, List.getElem?_replicate]
    split <;> rfl
  · rw [hb x hx, if_neg (Ne.symm hne)] at h; omega
theorem mem_nextL {p : Pl} {m x : Int} : x ∈ nextL p m ↔ (⟨m, x⟩ : Ar) ∈ p.arcs := by
  unfold nextL
  constructor
  · intro h
    obtain ⟨a, ha, rfl⟩ := List.mem_map.1 h
    obtain ⟨h1, h2⟩ := List.mem_filter.1 ha
    obtain ⟨a1, a2⟩ := a
    have : a1 = m := by simpa using h2
    subst this; exact h1
  · intro h
    exact List.mem_map.2 ⟨_, List.mem_filter.2 ⟨h, by simp⟩, rfl⟩
theorem DjR.round {p : Pl} (hok : OkP p) {bl : List Int} {to fr : Int} {s : RtS} {ord : List Int} (h : DjR p bl to fr s ord) (hf : 0 ≤ fr ∧ fr < p.ms.length) (h0 : 0 ≤ pickTo s p.ms.length) (hto : pickTo s p.ms.length ≠ to) :
    DjR p bl to fr (roundR p bl to s) (ord ++ [pickTo s p.ms.length]) := by
  have hle := hok.le
  obtain ⟨_, hmn⟩ := pickTo_bd s p.ms.length
  obtain ⟨hmd, hmb⟩ := pickTo_open s _ h0
  have hmin := fun j hj a b => (pickTo_min s p.ms.length j hj a b).2
  have hrd := roundR_done p bl to s
  have hmo : pickTo s p.ms.length ∉ ord := fun hh => by rw [(h.od _ h0 (by omega)).2 hh] at hmd; cases hmd
  unfold roundR at hrd ⊢
  generalize pickTo s p.ms.length = m at *
  have hbm : 0 < bst s m := hmb
  have hst : ∀ y, bst ⟨s.best, s.before, s.done.set m.toNat true⟩ y = bst s y := fun _ => rfl
  have hnl : ∀ x ∈ nextL p m, 0 ≤ x ∧ x < 64 ∧ x ≠ m ∧ 0 ≤ tAt p x := fun x hx => by
    obtain ⟨h1, h2, h3, _, _⟩ := hok.ins _ (mem_nextL.1 hx)
    have hi := inN_nat h2
    dsimp only at h3 hi
    obtain ⟨k, rfl, hk⟩ := hi
    refine ⟨by omega, by omega, Ne.symm h3, ?_⟩
    rw [tAt_nat hk]; exact (hok.times _ (List.getElem_mem hk)).1
  have hg := relaxs_get (p := p) (bl := bl) (to := to) h0 (nextL p m) ⟨s.best, s.before, s.done.set m.toNat true⟩ h.l1 h.l2 hbm hnl
  generalize (nextL p m).foldl (relax p bl to m) ⟨s.best, s.before, s.done.set m.toNat true⟩ = s' at *
  have hH : ∀ y, hitR p bl to m ⟨s.best, s.before, s.done.set m.toNat true⟩ y ↔ hitR p bl to m s y := fun y => Iff.rfl
  have hf' : ∀ y, bfr ⟨s.best, s.before, s.done.set m.toNat true⟩ y = bfr s y := fun _ => rfl
  have B : ∀ y, 0 ≤ y → (y ∈ nextL p m ∧ hitR p bl to m s y → bst s' y = bst s m + tAt p y ∧ bfr s' y = m) ∧ (¬ (y ∈ nextL p m ∧ hitR p bl to m s y) → bst s' y = bst s y ∧ bfr s' y = bfr s y) := fun y hy => by
    obtain ⟨g1, g2, _, _⟩ := hg y hy
    exact ⟨fun k => ⟨g1.trans (if_pos k), g2.trans (if_pos k)⟩, fun k => ⟨g1.trans (if_neg k), g2.trans (if_neg k)⟩⟩
  have hstay : ∀ y ∈ ord, ¬ (y ∈ nextL p m ∧ hitR p bl to m s y) := fun y hy k => by
    have h1 := h.low y hy m h0 hmo hbm
    have h2 := (h.pos y hy).1
    have h3 := (hnl y k.1).2.2.2
    rcases k.2.2 with h4 | h4 <;> omega
  have hstm : ¬ (m ∈ nextL p m ∧ hitR p bl to m s m) := fun k => (hnl m k.1).2.2.1 rfl
  have hst' : ∀ y ∈ ord ++ [m], bst s' y = bst s y ∧ bfr s' y = bfr s y := fun y hy => by
    rcases List.mem_append.1 hy with hy | hy
    · exact (B y (h.oin y hy).1).2 (hstay y hy)
    · simp at hy; subst hy; exact (B y h0).2 hstm
  have hrange : ∀ x, 0 ≤ x → 0 < bst s x → x < p.ms.length := fun x hx hb => by
    by_cases e : x = fr
    · rw [e]; exact hf.2
    · exact (step_in hok (h.pre x hx e hb).2.1).2.1.2
  have hidx : ∀ y ∈ ord, (ord ++ [m]).idxOf y = ord.idxOf y := fun y hy => by rw [List.idxOf_append, if_pos hy]
  have hidm : (ord ++ [m]).idxOf m = ord.length := by rw [List.idxOf_append, if_neg hmo]; simp
  have hstep : ∀ y, y ∈ nextL p m ∧ hitR p bl to m s y → StepR p bl to m y := fun y k => ⟨mem_nextL.1 k.1, hto, k.2.1.1, k.2.1.2⟩
  refine ⟨(hg 0 (by omega)).2.2.1, (hg 0 (by omega)).2.2.2, by rw [hrd, List.length_set, h.l3], ?_, ?_, fun x h1 h2 => ?_, ?_, fun x hx => ?_, fun x hx hne hb => ?_, fun m' hm' x hx => ?_, fun m' hm' x hx hno hb => ?_, fun m' hm' => ?_⟩
  · rw [List.nodup_append]
    exact ⟨h.nd, by simp, fun a ha b hb e => by simp at hb; subst hb; subst e; exact hmo ha⟩
  · intro x hx
    rcases List.mem_append.1 hx with hx | hx
    · exact h.oin x hx
    · simp at hx; subst hx; exact ⟨h0, hmn⟩
  · have := h.od x h1 h2
    rw [hrd, List.getD_eq_getElem?_getD, List.getElem?_set]
    by_cases e : m = x
    · subst e; rw [if_pos rfl, if_pos (by rw [h.l3]; omega)]; simp
    · rw [if_neg (by omega), ← List.getD_eq_getElem?_getD, this]
      simp [Ne.symm e]
  · rw [((B fr hf.1).2 fun k => ?_).1]
    · exact h.b0
    · have h3 := (hnl fr k.1).2.2.2
      have h4 := h.b0
      rcases k.2.2 with h5 | h5 <;> omega
  · by_cases k : x ∈ nextL p m ∧ hitR p bl to m s x
    · rw [((B x hx).1 k).1]; have := (hnl x k.1).2.2.2; omega
    · rw [((B x hx).2 k).1]; exact h.nn x hx
  · by_cases k : x ∈ nextL p m ∧ hitR p bl to m s x
    · obtain ⟨e1, e2⟩ := (B x hx).1 k
      rw [e2]
      refine ⟨by simp, hstep x k, by rw [e1, (hst' m (by simp)).1], fun hxo => ?_⟩
      rcases List.mem_append.1 hxo with hxo | hxo
      · exact absurd k (hstay x hxo)
      · simp at hxo; subst hxo; exact absurd k hstm
    · obtain ⟨e1, e2⟩ := (B x hx).2 k
      rw [e1] at hb
      rw [e2]
      obtain ⟨p1, p2, p3, p4⟩ := h.pre x hx hne hb
      refine ⟨by simp [p1], p2, by rw [e1, (hst' _ (List.mem_append_left _ p1)).1]; exact p3, fun hxo => ?_⟩
      rw [hidx _ p1]
      rcases List.mem_append.1 hxo with hxo | hxo
      · rw [hidx _ hxo]; exact p4 hxo
      · simp at hxo; subst hxo; rw [hidm]; exact List.idxOf_lt_length_of_mem p1
  · have hx0 : 0 ≤ x := (step_in hok hx).2.1.1
    rcases List.mem_append.1 hm' with h1 | h1
    · obtain ⟨c1, c2⟩ := h.cls m' h1 x hx
      rw [(hst' m' hm').1]
      by_cases k : x ∈ nextL p m ∧ hitR p bl to m s x
      · rw [((B x hx0).1 k).1]
        have := (hnl x k.1).2.2.2
        rcases k.2.2 with h4 | h4 <;> omega
      · rw [((B x hx0).2 k).1]; exact ⟨c1, c2⟩
    · simp at h1; subst h1
      rw [(hst' m' hm').1]
      by_cases k : x ∈ nextL p m' ∧ hitR p bl to m' s x
      · rw [((B x hx0).1 k).1]
        have := (hnl x k.1).2.2.2
        omega
      · rw [((B x hx0).2 k).1]
        have hk : ¬ (bst s x = 0 ∨ bst s m' + tAt p x < bst s x) := fun hh => k ⟨mem_nextL.2 hx.1, ⟨hx.2.2.1, hx.2.2.2⟩, hh⟩
        have := h.nn x hx0
        omega
  · rw [(hst' m' hm').1]
    have hlow : bst s m' ≤ bst s m := by
      rcases List.mem_append.1 hm' with h1 | h1
      · exact h.low m' h1 m h0 hmo hbm
      · simp at h1; subst h1; exact Int.le_refl _
    by_cases k : x ∈ nextL p m ∧ hitR p bl to m s x
    · rw [((B x hx).1 k).1]
      have := (hnl x k.1).2.2.2
      omega
    · obtain ⟨e1, _⟩ := (B x hx).2 k
      rw [e1] at hb ⊢
      have hxo : x ∉ ord := fun hh => hno (by simp [hh])
      have hxn := hrange x hx hb
      have hdx : s.done.getD x.toNat false = false := by
        cases hd : s.done.getD x.toNat false with
        | false => rfl
        | true => exact absurd ((h.od x hx (by omega)).1 hd) hxo
      have := hmin x.toNat (by omega) hb hdx
      exact Int.le_trans hlow this
  · rw [(hst' m' hm').1]
    rcases List.mem_append.1 hm' with h1 | h1
    · exact h.pos m' h1
    · simp at h1; subst h1; exact ⟨hbm, hto⟩
theorem DjR.run {p : Pl} (hok : OkP p) {bl : List Int} {to fr : Int} (hf : 0 ≤ fr ∧ fr < p.ms.length) : ∀ (f : Nat) (s sf : RtS) (ord : List Int), DjR p bl to fr s ord → runR p bl to f s = some sf → ∃ ord', DjR p bl to fr sf ord' ∧ (pickTo sf p.ms.length < 0 ∨ pickTo sf p.ms.length = to)
  | 0, _, _, _, _, h => by unfold runR at h; cases h
  | f + 1, s, sf, ord, hd, h => by
    unfold runR at h
    split at h
    · rename_i hc
      cases h
      exact ⟨ord, hd, hc⟩
    · rename_i hc
      exact DjR.run hok hf f _ sf _ (hd.round hok hf (by omega) (fun e => hc (.inr e))) h
theorem DjR.best {p : Pl} (hok : OkP p) {bl : List Int} {to fr : Int} {s : RtS} {ord : List Int} (h : DjR p bl to fr s ord) (hf : 0 ≤ fr ∧ fr < p.ms.length) {x t : Int} (hw : WayT p bl to fr x t) :
    0 ≤ x ∧ x < p.ms.length ∧ ((x ∈ ord ∧ bst s x ≤ t) ∨ (0 ≤ pickTo s p.ms.length ∧ bst s (pickTo s p.ms.length) ≤ t)) := by
  have hle := hok.le
  have hopen : ∀ x : Int, 0 ≤ x → x < p.ms.length → x ∉ ord → 0 < bst s x → 0 ≤ pickTo s p.ms.length ∧ bst s (pickTo s p.ms.length) ≤ bst s x := fun x h1 h2 h3 h4 => by
    have hdx : s.done.getD x.toNat false = false := by
      cases hd : s.done.getD x.toNat false with
      | false => rfl
      | true => exact absurd ((h.od x h1 (by omega)).1 hd) h3
    exact pickTo_min s p.ms.length x.toNat (by omega) h4 hdx
  induction hw with
  | start =>
    refine ⟨hf.1, hf.2, ?_⟩
    have hb := h.b0
    by_cases e : fr ∈ ord
    · exact .inl ⟨e, by omega⟩
    · have := hopen fr hf.1 hf.2 e (by omega)
      exact .inr ⟨this.1, by omega⟩
  | @step m x t hw' hs ih =>
    obtain ⟨_, ⟨hx0, hx1⟩, _, ht⟩ := step_in hok hs
    refine ⟨hx0, hx1, ?_⟩
    rcases ih.2.2 with ⟨k1, k2⟩ | ⟨k1, k2⟩
    · obtain ⟨c1, c2⟩ := h.cls _ k1 _ hs
      by_cases e : x ∈ ord
      · exact .inl ⟨e, by omega⟩
      · have := hopen x hx0 hx1 e c1
        exact .inr ⟨this.1, by omega⟩
    · exact .inr ⟨k1, by omega⟩
end Go.Proofs.YtahpdkkpnkhnhaaGreatDoor
/- Plain: the machines that Route returns are a path of the least time. -/
namespace Go.Proofs.YtahpdkkpnkhnhaaGreatDoor
open Go Go.Proofs Go.RowKit Go.Shelf
structure RtF (p : Pl) (bl : List Int) (to fr : Int) (l : List Int) (x t : Int) : Prop where
  len : 1 ≤ l.length
  hd : l.getD 0 0 = fr
  last : l.getD (l.length - 1) 0 = x
  nd : l.Nodup
  arcs : ∀ k, 0 < k → k < l.length → (⟨l.getD (k - 1) 0, l.getD k 0⟩ : Ar) ∈ p.arcs ∧ l.getD (k - 1) 0 ≠ to ∧ (l.getD k 0 = to ∨ cvB (kdA p (l.getD k 0)) = true)
  sum : tSum p l = tAt p fr + t - 1
  nb : ∀ y ∈ l, y = fr ∨ y ∉ bl
  way : WayT p bl to fr x t
theorem RtF.path {p : Pl} {bl : List Int} {to fr : Int} {l : List Int} {t : Int} (h : RtF p bl to fr l to t) (hne : fr ≠ to) (hb : bgB (kdA p fr) = true) (he : enB (kdA p to) = true) : pathB p l = true := by
  have hl := h.len
  rw [pathB_iff]
  refine ⟨Nat.not_lt.1 fun hh => hne ?_, by rw [h.hd]; exact hb, by rw [h.last]; exact he, h.nd, fun k hk => ?_⟩
  · have e1 := h.hd
    have e2 := h.last
    rw [show l.length - 1 = 0 by omega, e1] at e2
    exact e2
  · unfold okK
    by_cases k0 : k = 0
    · simp [k0]
    · obtain ⟨a1, a2, a3⟩ := h.arcs k (by omega) hk
      rw [decide_eq_true a1, Bool.and_true]
      by_cases k1 : k + 1 = l.length
      · simp [k1]
      · obtain ⟨b1, b2, b3⟩ := h.arcs (k + 1) (by omega) (by omega)
        rw [Nat.add_sub_cancel] at b2
        rcases a3 with a3 | a3
        · exact absurd a3 b2
        · rw [a3, Bool.or_true, Bool.or_true]
def badR (p : Pl) (bl : List Int) (fr to : Int) : Bool := fr == to || !bgB (kdA p fr) || !enB (kdA p to) || bl.contains fr || bl.contains to
end Go.Proofs.YtahpdkkpnkhnhaaGreatDoor
/- Plain: times that are improved until they do not change. -/
namespace Go.Proofs.YtahpdkkpnkhnhaaGreatDoor
open Go Go.Proofs Go.RowKit Go.Shelf
def negN (T : List Int) : Nat := T.countP (fun x => decide (x < 0))
structure BfR (p : Pl) (bl : List Int) (to fr : Int) (T : List Int) : Prop where
  len : T.length = p.ms.length
  st : T.getD fr.toNat 0 = tAt p fr
  snd : ∀ x : Nat, x < p.ms.length → 0 ≤ T.getD x 0 → ∃ t, WayT p bl to fr x t ∧ T.getD x 0 = tAt p fr + t - 1
  bd : ∀ x ∈ T, -1 ≤ x ∧ x + 100000 * negN T ≤ 6400000
def msF (v : Int) : Nat := if v < 0 then 6500001 else v.toNat
def msB (T : List Int) : Nat := (T.map msF).sum
theorem msB_set : ∀ (T : List Int) (x : Nat) (v : Int), x < T.length → msB (T.set x v) + msF (T.getD x 0) = msB T + msF v
  | [], x, v, h => by simp at h
  | a :: r, 0, v, _ => by
    unfold msB; simp [List.set_cons_zero]; omega
  | a :: r, x + 1, v, h => by
    have := msB_set r x v (by simpa using h)
    unfold msB at this ⊢
    simp only [List.set_cons_succ, List.map_cons, List.sum_cons, List.getD_cons_succ]
    omega
theorem negN_set : ∀ (T : List Int) (x : Nat) (v : Int), x < T.length → 0 ≤ v → negN (T.set x v) + (if T.getD x 0 < 0 then 1 else 0) = negN T
  | [], x, v, h, _ => by simp at h
  | a :: r, 0, v, _, hv => by
    unfold negN
    simp only [List.set_cons_zero, List.countP_cons, List.getD_cons_zero, decide_eq_true_eq]
    rw [if_neg (by omega)]; omega
  | a :: r, x + 1, v, h, hv => by
    have := negN_set r x v (by simpa using h) hv
    unfold negN at this ⊢
    simp only [List.set_cons_succ, List.countP_cons, List.getD_cons_succ]
    omega
theorem getD_memI {T : List Int} {x : Nat} (h : x < T.length) : T.getD x 0 ∈ T := by
  rw [List.getD_eq_getElem?_getD, List.getElem?_eq_getElem h]; exact List.getElem_mem h
theorem getD_setI (T : List Int) (i x : Nat) (v : Int) (h : i < T.length) : (T.set i v).getD x 0 = if i = x then v else T.getD x 0 := by
  rw [List.getD_eq_getElem?_getD, List.getElem?_set, List.getD_eq_getElem?_getD]
  by_cases e : i = x
  · subst e; simp [h]
  · simp [e]
theorem bg_cvR {s : ByteArray} (h : bgB s = true) : cvB s = false := by
  unfold bgB at h
  simp only [Bool.or_eq_true, decide_eq_true_eq] at h
  unfold cvB
  exact decide_eq_false (by omega)
section
variable {p : Pl} {bl : List Int} {to fr : Int} {T : List Int}
theorem BfR.start (hok : OkP p) (hf : ∃ k : Nat, fr = k ∧ k < p.ms.length) : BfR p bl to fr ((List.replicate p.ms.length (-1)).set fr.toNat (tAt p fr)) := by
  obtain ⟨k, rfl, hk⟩ := hf
  rw [Int.toNat_natCast]
  have ht := hok.times _ (List.getElem_mem hk)
  rw [← tAt_nat hk] at ht
  have hl := hok.le
  have hr : ∀ x : Nat, x < p.ms.length → (List.replicate p.ms.length (-1 : Int)).getD x 0 = -1 := fun x hx => by
    rw [List.getD_eq_getElem?_getD, List.getElem?_replicate, if_pos hx]; rfl
  have hn : negN ((List.replicate p.ms.length (-1 : Int)).set k (tAt p k)) + 1 = p.ms.length := by
    have := negN_set (List.replicate p.ms.length (-1)) k (tAt p k) (by simpa using hk) ht.1
    rw [hr k hk, if_pos (by omega)] at this
    rw [this]; unfold negN
    have hc : (List.replicate p.ms.length (-1 : Int)).countP (fun x => decide (x < 0)) = p.ms.length := by rw [List.countP_replicate]; rfl
    exact hc
  refine ⟨by simp, ?_, fun x hx h0 => ?_, fun x hx => ?_⟩
  · rw [Int.toNat_natCast, getD_setI _ _ _ _ (by simpa using hk), if_pos rfl]
  · rw [getD_setI _ _ _ _ (by simpa using hk)] at h0 ⊢
    by_cases e : k = x
    · subst e
      rw [if_pos rfl]
      exact ⟨1, .start, by omega⟩
    · rw [if_neg e, hr x hx] at h0; omega
  · rcases List.mem_or_eq_of_mem_set hx with h1 | h1
    · have := List.eq_of_mem_replicate h1
      omega
    · omega
theorem BfR.upd (hok : OkP p) (h : BfR p bl to fr T) {m x : Nat} (hs : StepR p bl to m x) (hf : 0 ≤ fr) (hm : 0 ≤ T.getD m 0) (hx : (x : Int) ≠ fr) (hc : T.getD x 0 < 0 ∨ T.getD m 0 + tAt p x < T.getD x 0) :
    BfR p bl to fr (T.set x (T.getD m 0 + tAt p x)) ∧ msB (T.set x (T.getD m 0 + tAt p x)) < msB T := by
  obtain ⟨⟨_, hmn⟩, ⟨_, hxn⟩, _, ht0⟩ := step_in hok hs
  have hmn : m < p.ms.length := by omega
  have hxn : x < p.ms.length := by omega
  have hlen := h.len
  have ht := (hok.times _ (List.getElem_mem hxn)).2
  rw [← tAt_nat hxn] at ht
  have hbm := (h.bd _ (getD_memI (x := m) (by omega))).2
  have hbx := h.bd _ (getD_memI (x := x) (by omega))
  have hng := negN_set T x (T.getD m 0 + tAt p x) (by omega) (by omega)
  have hms := msB_set T x (T.getD m 0 + tAt p x) (by omega)
  obtain ⟨tm, hw, he⟩ := h.snd m hmn hm
  refine ⟨⟨by rw [List.length_set]; exact hlen, ?_, fun y hy h0 => ?_, fun y hy => ?_⟩, ?_⟩
  · rw [getD_setI _ _ _ _ (by omega)]
    by_cases e : x = fr.toNat
    · omega
    · rw [if_neg e]; exact h.st
  · rw [getD_setI _ _ _ _ (by omega)] at h0 ⊢
    by_cases e : x = y
    · subst e
      rw [if_pos rfl]
      exact ⟨tm + tAt p x, .step hw hs, by omega⟩
    · rw [if_neg e] at h0 ⊢
      exact h.snd y hy h0
  · rcases List.mem_or_eq_of_mem_set hy with h1 | h1
    · have := h.bd y h1
      have : negN (T.set x (T.getD m 0 + tAt p x)) ≤ negN T := by omega
      omega
    · subst h1
      by_cases hneg : T.getD x 0 < 0
      · rw [if_pos hneg] at hng
        omega
      · rw [if_neg hneg] at hng
        omega
  · have h1 : msF (T.getD m 0 + tAt p x) < msF (T.getD x 0) := by
      unfold msF
      by_cases hneg : T.getD x 0 < 0
      · rw [if_pos hneg, if_neg (by omega)]; omega
      · rw [if_neg hneg, if_neg (by omega)]; omega
    omega
def ClsB (p : Pl) (bl : List Int) (to : Int) (T : List Int) (k : Nat) : Prop := ∀ i (h : i < p.arcs.length), i < k → StepR p bl to p.arcs[i].fr p.arcs[i].to → 0 ≤ T.getD p.arcs[i].fr.toNat 0 → 0 ≤ T.getD p.arcs[i].to.toNat 0 ∧ T.getD p.arcs[i].to.toNat 0 ≤ T.getD p.arcs[i].fr.toNat 0 + tAt p p.arcs[i].to
theorem BfR.all (hok : OkP p) (h : BfR p bl to fr T) (hc : ClsB p bl to T p.arcs.length) (hf0 : 0 ≤ tAt p fr) {x t : Int} (hw : WayT p bl to fr x t) : 0 ≤ T.getD x.toNat 0 ∧ T.getD x.toNat 0 ≤ tAt p fr + t - 1 := by
  induction hw with
  | start => rw [h.st]; omega
  | @step m x t _ hs ih =>
    obtain ⟨i, hi, e⟩ := List.mem_iff_getElem.1 hs.1
    have := hc i hi hi
    rw [e] at this
    have := this hs ih.1
    dsimp only at this
    omega
def ShR (p : Pl) (bl : List Int) (fr to v : Int) : Prop :=
  (badR p bl fr to = true → v = -1) ∧ (badR p bl fr to = false → (v = -1 ∧ ∀ t, ¬ WayT p bl to fr to t) ∨ (0 ≤ v ∧ ∃ t, WayT p bl to fr to t ∧ v = tAt p fr + t - 1 ∧ ∀ t', WayT p bl to fr to t' → t ≤ t'))
theorem BfR.done (hok : OkP p) (h : BfR p bl to fr T) (hc : ClsB p bl to T p.arcs.length) (hb : badR p bl fr to = false) (hf : ∃ k : Nat, fr = k ∧ k < p.ms.length) (ht : ∃ k : Nat, to = k ∧ k < p.ms.length) : ShR p bl fr to (T.getD to.toNat 0) := by
  obtain ⟨k, rfl, hk⟩ := hf
  obtain ⟨q, rfl, hq⟩ := ht
  have hlen := h.len
  have hf0 : 0 ≤ tAt p k := by rw [tAt_nat hk]; exact (hok.times _ (List.getElem_mem hk)).1
  refine ⟨fun h1 => by rw [hb] at h1; (cases h1), fun _ => ?_⟩
  rw [Int.toNat_natCast]
  by_cases h0 : 0 ≤ T.getD q 0
  · obtain ⟨t, hw, he⟩ := h.snd q hq h0
    refine .inr ⟨h0, t, hw, he, fun t' hw' => ?_⟩
    have := (h.all hok hc hf0 hw').2
    rw [Int.toNat_natCast] at this
    omega
  · have := (h.bd _ (getD_memI (x := q) (by omega))).1
    refine .inl ⟨by omega, fun t hw => ?_⟩
    have := (h.all hok hc hf0 hw).1
    rw [Int.toNat_natCast] at this
    omega
theorem step_ne (hb : badR p bl fr to = false) {m : Int} {x : Int} (hs : StepR p bl to m x) : x ≠ fr := by
  intro e
  subst e
  unfold badR at hb
  simp only [Bool.or_eq_false_iff, beq_eq_false_iff_ne, Bool.not_eq_false'] at hb
  rcases hs.2.2.1 with h1 | h1
  · exact hb.1.1.1.1 h1
  · have := (bg_cvR hb.1.1.1.2)
    rw [h1] at this; cases this
end
end Go.Proofs.YtahpdkkpnkhnhaaGreatDoor
/- Plain: the search of CheckCut finds a way to a sink exactly if there is one. -/
namespace Go.Proofs.YtahpdkkpnkhnhaaGreatDoor
open Go Go.Proofs Go.RowKit Go.Shelf
def inS (s : List Bool) (m : Int) : Prop := s.getD m.toNat false = true
inductive VWay (p : Pl) (cut snk src : List Int) : Int → Prop
  | start {m : Int} : m ∈ src → m ∉ cut → VWay p cut snk src m
  | step {m x : Int} : VWay p cut snk src m → m ∉ snk → (cvB (kdA p m) = true ∨ m ∈ src) → (⟨m, x⟩ : Ar) ∈ p.arcs → (cvB (kdA p x) = true ∨ x ∈ snk) → x ∉ cut → VWay p cut snk src x
theorem contains_iff {l : List Int} {x : Int} : l.contains x = true ↔ x ∈ l := by simp
theorem goN_true {V : List Bool → Int → Option (Bool × List Bool)} {ok : Int → Bool} : ∀ {l : List Int} {s s' : List Bool}, goN V ok l s = some (true, s') → ∃ x s1 s2, x ∈ l ∧ ok x = true ∧ V s1 x = some (true, s2)
  | [], s, s', h => by unfold goN at h; cases h
  | x :: r, s, s', h => by
    unfold goN at h
    by_cases hok : ok x = true
    · rw [if_pos hok] at h
      cases hv : V s x with
      | none => rw [hv] at h; cases h
      | some z =>
        obtain ⟨b, s1⟩ := z
        rw [hv] at h
        cases b with
        | true => exact ⟨x, s, s1, by simp, hok, hv⟩
        | false =>
          obtain ⟨y, s2, s3, h1, h2, h3⟩ := goN_true h
          exact ⟨y, s2, s3, by simp [h1], h2, h3⟩
    · rw [if_neg hok] at h
      obtain ⟨y, s2, s3, h1, h2, h3⟩ := goN_true h
      exact ⟨y, s2, s3, by simp [h1], h2, h3⟩
theorem visN_true {p : Pl} {cut snk src : List Int} : ∀ {f : Nat} {s s' : List Bool} {m : Int}, visN p cut snk src f s m = some (true, s') → (m ∉ cut → VWay p cut snk src m) → ∃ t ∈ snk, VWay p cut snk src t
  | 0, s, s', m, h, _ => by unfold visN at h; cases h
  | f + 1, s, s', m, h, hw => by
    unfold visN at h
    split at h
    · cases h
    · rename_i h1
      have hc : m ∉ cut := fun hc => h1 (by rw [contains_iff.2 hc, Bool.or_true])
      split at h
      · rename_i h2
        exact ⟨m, contains_iff.1 h2, hw hc⟩
      · rename_i h2
        have h2 : m ∉ snk := fun hh => h2 (contains_iff.2 hh)
        split at h
        · cases h
        · rename_i h3
          have h3 : cvB (kdA p m) = true ∨ m ∈ src := by
            cases h4 : cvB (kdA p m) with
            | true => exact .inl rfl
            | false =>
              right
              rw [h4] at h3
              simpa using h3
          obtain ⟨x, s1, s2, k1, k2, k3⟩ := goN_true h
          refine visN_true k3 fun hx => ?_
          refine .step (hw hc) h2 h3 (mem_nextL.1 k1) ?_ hx
          simp only [Bool.or_eq_true, contains_iff] at k2
          exact k2
structure SeenR (p : Pl) (cut snk src : List Int) (s s' : List Bool) : Prop where
  len : s'.length = s.length
  le : ∀ x : Int, inS s x → inS s' x
  new : ∀ x : Int, 0 ≤ x → inS s' x → ¬ inS s x → x ∉ snk ∧ ((cvB (kdA p x) = true ∨ x ∈ src) → ∀ y ∈ nextL p x, (cvB (kdA p y) = true ∨ y ∈ snk) → y ∈ cut ∨ inS s' y)
theorem SeenR.refl (p : Pl) (cut snk src : List Int) (s : List Bool) : SeenR p cut snk src s s := ⟨rfl, fun _ h => h, fun _ _ h h' => absurd h h'⟩
theorem SeenR.trans {p : Pl} {cut snk src : List Int} {a b c : List Bool} (h : SeenR p cut snk src a b) (k : SeenR p cut snk src b c) : SeenR p cut snk src a c :=
  ⟨k.len.trans h.len, fun x hx => k.le x (h.le x hx), fun x h0 hx hn => by
    by_cases hb : inS b x
    · obtain ⟨h1, h2⟩ := h.new x h0 hb hn
      refine ⟨h1, fun h3 y hy h4 => ?_⟩
      rcases h2 h3 y hy h4 with h5 | h5
      · exact .inl h5
      · exact .inr (k.le y h5)
    · exact k.new x h0 hx hb⟩
theorem goN_false {p : Pl} {cut snk src : List Int} {n : Nat} {V : List Bool → Int → Option (Bool × List Bool)} {ok : Int → Bool} (hV : ∀ s s' x, s.length = 64 → 0 ≤ x → V s x = some (false, s') → SeenR p cut snk src s s' ∧ (x ∈ cut ∨ inS s' x)) :
    ∀ {l : List Int} {s s' : List Bool}, s.length = 64 → (∀ x ∈ l, 0 ≤ x) → goN V ok l s = some (false, s') → SeenR p cut snk src s s' ∧ ∀ x ∈ l, ok x = true → x ∈ cut ∨ inS s' x
  | [], s, s', _, _, h => by
    unfold goN at h
    cases h
    exact ⟨.refl _ _ _ _ _, by simp⟩
  | x :: r, s, s', hl, hp, h => by
    unfold goN at h
    by_cases hok : ok x = true
    · rw [if_pos hok] at h
      cases hv : V s x with
      | none => rw [hv] at h; cases h
      | some z =>
        obtain ⟨b, s1⟩ := z
        rw [hv] at h
        cases b with
        | true => cases h
        | false =>
          obtain ⟨h1, h2⟩ := hV s s1 x hl (hp x (by simp)) hv
          obtain ⟨h3, h4⟩ := goN_false (n := n) hV (h1.len.trans hl) (fun y hy => hp y (by simp [hy])) h
          refine ⟨h1.trans h3, fun y hy ho => ?_⟩
          rcases List.mem_cons.1 hy with rfl | hy
          · exact h2.imp_right (h3.le _)
          · exact h4 y hy ho
    · rw [if_neg hok] at h
      obtain ⟨h3, h4⟩ := goN_false (n := n) hV hl (fun y hy => hp y (by simp [hy])) h
      refine ⟨h3, fun y hy ho => ?_⟩
      rcases List.mem_cons.1 hy with rfl | hy
      · exact absurd ho hok
      · exact h4 y hy ho
theorem inS_set {s : List Bool} {m : Int} (hl : m.toNat < s.length) (x : Int) : inS (s.set m.toNat true) x ↔ x.toNat = m.toNat ∨ inS s x := by
  unfold inS
  rw [List.getD_eq_getElem?_getD, List.getElem?_set, List.getD_eq_getElem?_getD]
  by_cases e : m.toNat = x.toNat
  · rw [if_pos e, if_pos hl]; simp [e]
  · rw [if_neg e]
    constructor
    · exact .inr
    · rintro (h | h)
      · exact absurd h.symm e
      · exact h
theorem visN_false {p : Pl} (hok : OkP p) {cut snk src : List Int} : ∀ {f : Nat} {s s' : List Bool} {m : Int}, s.length = 64 → 0 ≤ m → m < 64 → visN p cut snk src f s m = some (false, s') → SeenR p cut snk src s s' ∧ (m ∈ cut ∨ inS s' m)
  | 0, s, s', m, _, _, _, h => by unfold visN at h; cases h
  | f + 1, s, s', m, hl, h0, h64, h => by
    unfold visN at h
    split at h
    · rename_i h1
      cases h
      refine ⟨.refl _ _ _ _ _, ?_⟩
      simp only [Bool.or_eq_true, contains_iff] at h1
      rcases h1 with h1 | h1
      · exact .inr h1
      · exact .inl h1
    · rename_i h1
      have hms : m.toNat < s.length := by omega
      have hset := inS_set hms
      have hself : inS (s.set m.toNat true) m := (hset m).2 (.inl rfl)
      split at h
      · cases h
      · rename_i h2
        have h2 : m ∉ snk := fun hh => h2 (contains_iff.2 hh)
        split at h
        · rename_i h3
          cases h
          refine ⟨⟨by rw [List.length_set], fun x hx => (hset x).2 (.inr hx), fun x hx0 hx hn => ?_⟩, .inr hself⟩
          have e : x = m := by
            rcases (hset x).1 hx with h4 | h4
            · omega
            · exact absurd h4 hn
          subst e
          refine ⟨h2, fun h4 => ?_⟩
          simp only [Bool.and_eq_true, Bool.not_eq_true'] at h3
          rcases h4 with h4 | h4
          · rw [h3.1] at h4; cases h4
          · rw [contains_iff.2 h4] at h3; cases h3.2
        · obtain ⟨h3, h4⟩ := goN_false (n := f) (p := p) (cut := cut) (snk := snk) (src := src) (V := fun s x => if 0 ≤ x ∧ x < 64 then visN p cut snk src f s x else none) (fun s s' x a b c => by
              by_cases hx : 0 ≤ x ∧ x < 64
              · rw [if_pos hx] at c
                exact visN_false hok a b hx.2 c
              · rw [if_neg hx] at c; cases c) (l := nextL p m) (s := s.set m.toNat true) (s' := s') (ok := fun x => cvB (kdA p x) || snk.contains x) (by rw [List.length_set]; exact hl) (fun x hx => (nextL_in hok hx).1) (by
              rw [← h]
              have hc : ∀ (l : List Int) (s : List Bool), (∀ x ∈ l, 0 ≤ x ∧ x < 64) → goN (fun s x => if 0 ≤ x ∧ x < 64 then visN p cut snk src f s x else none) (fun x => cvB (kdA p x) || snk.contains x) l s = goN (visN p cut snk src f) (fun x => cvB (kdA p x) || snk.contains x) l s := by
                intro l
                induction l with
                | nil => intro s _; rfl
                | cons x r ih =>
                  intro s hx
                  unfold goN
                  rw [if_pos (hx x (by simp))]
                  split
                  · cases hv : visN p cut snk src f s x with
                    | none => rfl
                    | some z =>
                      obtain ⟨b, s1⟩ := z
                      cases b with
                      | true => rfl
                      | false => exact ih s1 fun y hy => hx y (by simp [hy])
                  · exact ih s fun y hy => hx y (by simp [hy])
              exact hc _ _ fun x hx => nextL_in hok hx)
          refine ⟨⟨by rw [h3.len, List.length_set], fun x hx => h3.le x ((hset x).2 (.inr hx)), fun x hx0 hx hn => ?_⟩, .inr (h3.le m hself)⟩
          by_cases e : x = m
          · subst e
            exact ⟨h2, fun _ y hy h6 => h4 y hy (by simp only [Bool.or_eq_true, contains_iff]; exact h6)⟩
          · refine h3.new x hx0 hx fun h5 => ?_
            rcases (hset x).1 h5 with h6 | h6
            · omega
            · exact hn h6
theorem anyN_true {V : List Bool → Int → Option (Bool × List Bool)} : ∀ {l : List Int} {s : List Bool}, anyN V l s = true → ∃ x s1 s2, x ∈ l ∧ V s1 x = some (true, s2)
  | [], s, h => by unfold anyN at h; cases h
  | x :: r, s, h => by
    unfold anyN at h
    cases hv : V s x with
    | none => rw [hv] at h; cases h
    | some z =>
      obtain ⟨b, s1⟩ := z
      rw [hv] at h
      cases b with
      | true => exact ⟨x, s, s1, by simp, hv⟩
      | false =>
        obtain ⟨y, s2, s3, h1, h2⟩ := anyN_true h
        exact ⟨y, s2, s3, by simp [h1], h2⟩
theorem anyN_false {p : Pl} (hok : OkP p) {cut snk src : List Int} : ∀ {l : List Int} {s : List Bool}, (∀ x ∈ l, 0 ≤ x ∧ x < 64) → s.length = 64 → anyN (visN p cut snk src 65) l s = false → ∃ s', SeenR p cut snk src s s' ∧ ∀ x ∈ l, x ∈ cut ∨ inS s' x
  | [], s, _, _, _ => ⟨s, .refl _ _ _ _ _, by simp⟩
  | x :: r, s, hl, hs, h => by
    obtain ⟨hx0, hx1⟩ := hl x (by simp)
    obtain ⟨b, s1, e, h1, _⟩ := visN_some hok cut snk src 64 s x hs (by have := List.count_le_length (a := false) (l := s); omega) ⟨hx0, hx1⟩
    unfold anyN at h
    rw [e] at h
    cases b with
    | true => cases h
    | false =>
      obtain ⟨h2, h3⟩ := visN_false hok hs hx0 hx1 e
      obtain ⟨s', h4, h5⟩ := anyN_false hok (fun y hy => hl y (by simp [hy])) h1 h
      refine ⟨s', h2.trans h4, fun y hy => ?_⟩
      rcases List.mem_cons.1 hy with rfl | hy
      · exact h3.imp_right (h4.le _)
      · exact h5 y hy
theorem cutB_iff {p : Pl} (hok : OkP p) {cut snk src : List Int} (hsrc : ∀ x ∈ src, inN p.ms.length x = true) : cutB p src snk cut = true ↔ ∃ t ∈ snk, VWay p cut snk src t := by
  constructor
  · intro h
    unfold cutB at h
    obtain ⟨x, s1, s2, h1, h2⟩ := anyN_true h
    exact visN_true h2 fun hc => .start h1 hc
  · rintro ⟨t, ht, hw⟩
    cases hq : cutB p src snk cut with
    | true => rfl
    | false =>
      unfold cutB at hq
      have hle := hok.le
      obtain ⟨s', h1, h2⟩ := anyN_false hok (fun x hx => by obtain ⟨k, rfl, hk⟩ := inN_nat (hsrc x hx); omega) (by simp) hq
      have hno : ∀ x : Int, ¬ inS (List.replicate 64 false) x := fun x h => by
        unfold inS at h
        rw [List.getD_eq_getElem?_getD, List.getElem?_replicate] at h
        split at h <;> cases h
      have hall : ∀ x, VWay p cut snk src x → 0 ≤ x ∧ inS s' x := by
        intro x hx
        induction hx with
        | @start m hm hc =>
          obtain ⟨k, rfl, hk⟩ := inN_nat (hsrc m hm)
          exact ⟨by omega, (h2 _ hm).resolve_left hc⟩
        | @step m x _ _ h5 h6 h7 h8 ih =>
          have hx := nextL_in hok (mem_nextL.2 h6)
          exact ⟨hx.1, ((h1.new m ih.1 ih.2 (hno m)).2 h5 x (mem_nextL.2 h6) h7).resolve_left h8⟩
      obtain ⟨h3, h4⟩ := hall t hw
      exact absurd ht (h1.new t h3 h4 (hno t)).1
theorem en_cvR {s : ByteArray} (h : enB s = true) : cvB s = false := by
  unfold enB at h
  simp only [Bool.or_eq_true, decide_eq_true_eq] at h
  unfold cvB
  exact decide_eq_false (by omega)
theorem way_in {p : Pl} {cut : List Int} {to fr x t : Int} (h : WayT p cut to fr x t) : x = fr ∨ ((x = to ∨ cvB (kdA p x) = true) ∧ x ∉ cut) := by
  cases h with
  | start => exact .inl rfl
  | step _ hs => exact .inr ⟨hs.2.2.1, hs.2.2.2⟩
theorem way_v {p : Pl} {cut src snk : List Int} (he : OkE p src snk) {to fr x t : Int} (hf : fr ∈ src) (hc : fr ∉ cut) (ht : to ∈ snk) (h : WayT p cut to fr x t) : VWay p cut snk src x := by
  induction h with
  | start => exact .start hf hc
  | @step m x t hw hs ih =>
    have hm : m ∉ snk ∧ (cvB (kdA p m) = true ∨ m ∈ src) := by
      rcases way_in hw with h1 | ⟨h1, _⟩
      · subst h1; exact ⟨(fun hh => he.ne _ hh hf), .inr hf⟩
      · rcases h1 with h1 | h1
        · exact absurd h1 hs.2.1
        · exact ⟨fun h2 => (by have := en_cvR (he.k2 _ h2); rw [h1] at this; cases this), .inl h1⟩
    refine .step ih hm.1 hm.2 hs.1 ?_ hs.2.2.2
    rcases hs.2.2.1 with h1 | h1
    · subst h1; exact .inr ht
    · exact .inl h1
theorem v_way {p : Pl} {cut src snk : List Int} {x : Int} (h : VWay p cut snk src x) : x ∉ cut ∧ ∀ to ∈ snk, (x ∈ snk → x = to) → ∃ fr t, fr ∈ src ∧ fr ∉ cut ∧ WayT p cut to fr x t := by
  induction h with
  | @start m hm hc => exact ⟨hc, fun to _ _ => ⟨m, 1, hm, hc, .start⟩⟩
  | @step m x _ h2 h3 h4 h5 h6 ih =>
    refine ⟨h6, fun to ht hx => ?_⟩
    obtain ⟨fr, t, k1, k2, k3⟩ := ih.2 to ht fun hh => absurd hh h2
    refine ⟨fr, _, k1, k2, .step k3 ⟨h4, fun e => h2 (by rw [e]; exact ht), ?_, h6⟩⟩
    rcases h5 with h5 | h5
    · exact .inr h5
    · exact .inl (hx h5)
theorem OkE.good {p : Pl} {cut src snk : List Int} (he : OkE p src snk) {fr to : Int} (hf : fr ∈ src) (ht : to ∈ snk) (hc : fr ∉ cut) (hc' : to ∉ cut) : badR p cut fr to = false := by
  unfold badR
  rw [he.k1 _ hf, he.k2 _ ht]
  simp only [Bool.not_true, Bool.or_false, Bool.or_eq_false_iff, beq_eq_false_iff_ne, List.contains_eq_mem, decide_eq_false_iff_not]
  exact ⟨⟨fun e => he.ne _ ht (by rw [← e]; exact hf), hc⟩, hc'⟩
theorem badR_cut {p : Pl} {cut : List Int} {fr to : Int} (h : badR p cut fr to = false) : fr ∉ cut ∧ to ∉ cut := by
  unfold badR at h
  simp only [Bool.or_eq_false_iff, List.contains_eq_mem, decide_eq_false_iff_not] at h
  exact ⟨h.1.2, h.2⟩
theorem cut_some {p : Pl} (hok : OkP p) {cut src snk : List Int} (he : OkE p src snk) (h : cutB p src snk cut = true) : ∃ fr ∈ src, ∃ to ∈ snk, ∀ v, ShR p cut fr to v → 0 ≤ v := by
  obtain ⟨t, ht, hw⟩ := (cutB_iff hok he.in1).1 h
  obtain ⟨hc', h⟩ := v_way hw
  obtain ⟨fr, tm, k1, k2, k3⟩ := h t ht fun _ => rfl
  have hb := he.good k1 ht k2 hc'
  refine ⟨fr, k1, t, ht, fun v hv => ?_⟩
  rcases hv.2 hb with ⟨_, h2⟩ | ⟨h1, _⟩
  · exact absurd k3 (h2 _)
  · exact h1
theorem cut_of {p : Pl} (hok : OkP p) {cut src snk : List Int} (he : OkE p src snk) {fr to v : Int} (hf : fr ∈ src) (ht : to ∈ snk) (h : ShR p cut fr to v) (h0 : 0 ≤ v) : cutB p src snk cut = true := by
  rw [cutB_iff hok he.in1]
  cases hb : badR p cut fr to with
  | true => have := h.1 hb; omega
  | false =>
    rcases h.2 hb with ⟨h1, _⟩ | ⟨_, t, hw, _⟩
    · omega
    · exact ⟨to, ht, way_v he hf (badR_cut hb).1 ht hw⟩
end Go.Proofs.YtahpdkkpnkhnhaaGreatDoor
