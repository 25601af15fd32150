/- Lemmas on the way to the law PathMenger (part 1): Ga Gb Pa -/
import Derived.Test.YtahpdkkpnkhnhaaGreatDoorBA21
set_option linter.unusedVariables false
set_option linter.unusedSimpArgs false

/- Plain: what Route finds: ways of the least time. -/
namespace Go.Proofs.YtahpdkkpnkhnhaaGreatDoor
open Go Go.Proofs Go.RowKit Go.Shelf
def StepR (p : Pl) (bl : List Int) (to m x : Int) : Prop := (⟨m, x⟩ : Ar) ∈ p.arcs ∧ m ≠ to ∧ (x = to ∨ cvB (kdA p x) = true) ∧ x ∉ bl
inductive WayT (p : Pl) (bl : List Int) (to fr : Int) : Int → Int → Prop
  | start : WayT p bl to fr fr 1
  | step {m x t : Int} : WayT p bl to fr m t → StepR p bl to m x → WayT p bl to fr x (t + tAt p x)
def bst (s : RtS) (x : Int) : Int := s.best.getD x.toNat 0
def bfr (s : RtS) (x : Int) : Int := s.before.getD x.toNat 0
def hitR (p : Pl) (bl : List Int) (to m : Int) (s : RtS) (x : Int) : Prop := ((x = to ∨ cvB (kdA p x) = true) ∧ x ∉ bl) ∧ (bst s x = 0 ∨ bst s m + tAt p x < bst s x)
instance hitR_dec (p : Pl) (bl : List Int) (to m : Int) (s : RtS) (x : Int) : Decidable (hitR p bl to m s x) := by unfold hitR; exact inferInstance
theorem relaxB_hit (p : Pl) (bl : List Int) (to m : Int) (s : RtS) (x : Int) : relaxB p bl to m s x = true ↔ hitR p bl to m s x := by
  unfold relaxB hitR bst
  simp only [Bool.and_eq_true, Bool.or_eq_true, beq_iff_eq, Bool.not_eq_true', decide_eq_true_eq, List.contains_eq_mem, decide_eq_false_iff_not]
theorem bst_set (s : RtS) {x y v : Int} (b : List Int) (d : List Bool) (h1 : s.best.length = 64) (hx : 0 ≤ x ∧ x < 64) (hy : 0 ≤ y) : bst ⟨s.best.set x.toNat v, b, d⟩ y = if x = y then v else bst s y := by
  unfold bst
  rw [getD_setF _ _ _ _ _ (by omega)]
  by_cases e : x = y
  · subst e; rw [if_pos rfl, if_pos rfl]
  · rw [if_neg e, if_neg (by omega)]
theorem bfr_set (s : RtS) {x y v : Int} (b : List Int) (d : List Bool) (h1 : s.before.length = 64) (hx : 0 ≤ x ∧ x < 64) (hy : 0 ≤ y) : bfr ⟨b, s.before.set x.toNat v, d⟩ y = if x = y then v else bfr s y := by
  unfold bfr
  rw [getD_setF _ _ _ _ _ (by omega)]
  by_cases e : x = y
  · subst e; rw [if_pos rfl, if_pos rfl]
  · rw [if_neg e, if_neg (by omega)]
theorem relax_get {p : Pl} {bl : List Int} {to m x : Int} {s : RtS} (h1 : s.best.length = 64) (h2 : s.before.length = 64) (hx : 0 ≤ x ∧ x < 64) (y : Int) (hy : 0 ≤ y) :
    (bst (relax p bl to m s x) y = if x = y ∧ hitR p bl to m s x then bst s m + tAt p x else bst s y) ∧ (bfr (relax p bl to m s x) y = if x = y ∧ hitR p bl to m s x then m else bfr s y) ∧
      (relax p bl to m s x).best.length = 64 ∧ (relax p bl to m s x).before.length = 64 := by
  unfold relax
  by_cases h : relaxB p bl to m s x = true
  · have hh := (relaxB_hit p bl to m s x).1 h
    rw [if_pos h]
    refine ⟨?_, ?_, by rw [List.length_set]; exact h1, by rw [List.length_set]; exact h2⟩
    · rw [bst_set s _ _ h1 hx hy]
      by_cases e : x = y
      · rw [if_pos e, if_pos ⟨e, hh⟩]; rfl
      · rw [if_neg e, if_neg (fun h => e h.1)]
    · rw [bfr_set s _ _ h2 hx hy]
      by_cases e : x = y
      · rw [if_pos e, if_pos ⟨e, hh⟩]
      · rw [if_neg e, if_neg (fun h => e h.1)]
  · have hh : ¬ hitR p bl to m s x := fun k => h ((relaxB_hit p bl to m s x).2 k)
    rw [if_neg h]
    exact ⟨by rw [if_neg (fun k => hh k.2)], by rw [if_neg (fun k => hh k.2)], h1, h2⟩
theorem relaxs_get {p : Pl} {bl : List Int} {to m : Int} (hm : 0 ≤ m) : ∀ (l : List Int) (s : RtS), s.best.length = 64 → s.before.length = 64 → 0 < bst s m → (∀ x ∈ l, 0 ≤ x ∧ x < 64 ∧ x ≠ m ∧ 0 ≤ tAt p x) → ∀ y, 0 ≤ y →
    (bst (l.foldl (relax p bl to m) s) y = if y ∈ l ∧ hitR p bl to m s y then bst s m + tAt p y else bst s y) ∧ (bfr (l.foldl (relax p bl to m) s) y = if y ∈ l ∧ hitR p bl to m s y then m else bfr s y) ∧
      (l.foldl (relax p bl to m) s).best.length = 64 ∧ (l.foldl (relax p bl to m) s).before.length = 64
  | [], s, h1, h2, _, _, y, _ => ⟨by simp, by simp, h1, h2⟩
  | x :: l, s, h1, h2, h3, hl, y, hy => by
    obtain ⟨hx0, hx1, hxm, hxt⟩ := hl x (by simp)
    obtain ⟨r1, r2, r3, r4⟩ := relax_get (p := p) (bl := bl) (to := to) (m := m) h1 h2 ⟨hx0, hx1⟩ y hy
    obtain ⟨m1, _, _, _⟩ := relax_get (p := p) (bl := bl) (to := to) (m := m) h1 h2 ⟨hx0, hx1⟩ m hm
    rw [if_neg (fun h => hxm h.1)] at m1
    obtain ⟨i1, i2, i3, i4⟩ := relaxs_get (p := p) (bl := bl) (to := to) hm l (relax p bl to m s x) r3 r4 (by rw [m1]; exact h3) (fun z hz => hl z (by simp [hz])) y hy
    rw [List.foldl_cons]
    refine ⟨?_, ?_, i3, i4⟩
    · rw [i1, m1]
      by_cases e : x = y
      · subst e
        by_cases hh : hitR p bl to m s x
        · rw [if_pos ⟨rfl, hh⟩] at r1
          rw [if_neg (fun k => by have := k.2.2; rw [m1, r1] at this; omega), r1, if_pos ⟨by simp, hh⟩]
        · rw [if_neg (fun k => hh k.2)] at r1
          rw [if_neg (fun k => hh (by have := k.2; unfold hitR at this ⊢; rw [m1, r1] at this; exact this)), r1, if_neg (fun k => hh k.2)]
      · rw [if_neg (fun k => e k.1)] at r1
        have hiff : hitR p bl to m (relax p bl to m s x) y ↔ hitR p bl to m s y := by unfold hitR; rw [m1, r1]
        rw [r1]
        by_cases hh : y ∈ l ∧ hitR p bl to m s y
        · rw [if_pos ⟨hh.1, hiff.2 hh.2⟩, if_pos ⟨by simp [hh.1], hh.2⟩]
        · rw [if_neg (fun k => hh ⟨k.1, hiff.1 k.2⟩), if_neg (fun k => hh ⟨by rcases List.mem_cons.1 k.1 with h | h; exact absurd h.symm e; exact h, k.2⟩)]
    · rw [i2]
      by_cases e : x = y
      · subst e
        by_cases hh : hitR p bl to m s x
        · rw [if_pos ⟨rfl, hh⟩] at r1 r2
          rw [if_neg (fun k => by have := k.2.2; rw [m1, r1] at this; omega), r2, if_pos ⟨by simp, hh⟩]
        · rw [if_neg (fun k => hh k.2)] at r1 r2
          rw [if_neg (fun k => hh (by have := k.2; unfold hitR at this ⊢; rw [m1, r1] at this; exact this)), r2, if_neg (fun k => hh k.2)]
      · rw [if_neg (fun k => e k.1)] at r1 r2
        have hiff : hitR p bl to m (relax p bl to m s x) y ↔ hitR p bl to m s y := by unfold hitR; rw [m1, r1]
        rw [r2]
        by_cases hh : y ∈ l ∧ hitR p bl to m s y
        · rw [if_pos ⟨hh.1, hiff.2 hh.2⟩, if_pos ⟨by simp [hh.1], hh.2⟩]
        · rw [if_neg (fun k => hh ⟨k.1, hiff.1 k.2⟩), if_neg (fun k => hh ⟨by rcases List.mem_cons.1 k.1 with h | h; exact absurd h.symm e; exact h, k.2⟩)]
theorem pickTo_min (s : RtS) : ∀ (k j : Nat), j < k → 0 < s.best.getD j 0 → s.done.getD j false = false → 0 ≤ pickTo s k ∧ s.best.getD (pickTo s k).toNat 0 ≤ s.best.getD j 0
  | k + 1, j, hj, h1, h2 => by
    unfold pickTo pickS
    by_cases e : j = k
    · subst e
      split
      · rw [Int.toNat_natCast]; omega
      · rename_i hno
        by_cases hp : pickTo s j < 0
        · exact absurd ⟨h1, h2, .inl hp⟩ hno
        · refine ⟨by omega, Int.not_lt.1 fun hlt => hno ⟨h1, h2, .inr hlt⟩⟩
    · obtain ⟨i1, i2⟩ := pickTo_min s k j (by omega) h1 h2
      split
      · rename_i hc
        rw [Int.toNat_natCast]
        rcases hc.2.2 with h | h
        · omega
        · omega
      · exact ⟨i1, i2⟩
structure DjR (p : Pl) (bl : List Int) (to fr : Int) (s : RtS) (ord : List Int) : Prop where
  l1 : s.best.length = 64
  l2 : s.before.length = 64
  l3 : s.done.length = 64
  nd : ord.Nodup
  oin : ∀ x ∈ ord, 0 ≤ x ∧ x < p.ms.length
  od : ∀ x : Int, 0 ≤ x → x < 64 → (s.done.getD x.toNat false = true ↔ x ∈ ord)
  b0 : bst s fr = 1
  nn : ∀ x, 0 ≤ x → 0 ≤ bst s x
  pre : ∀ x, 0 ≤ x → x ≠ fr → 0 < bst s x → bfr s x ∈ ord ∧ StepR p bl to (bfr s x) x ∧ bst s x = bst s (bfr s x) + tAt p x ∧ (x ∈ ord → ord.idxOf (bfr s x) < ord.idxOf x)
  cls : ∀ m ∈ ord, ∀ x, StepR p bl to m x → 0 < bst s x ∧ bst s x ≤ bst s m + tAt p x
  low : ∀ m ∈ ord, ∀ x, 0 ≤ x → x ∉ ord → 0 < bst s x → bst s m ≤ bst s x
  pos : ∀ m ∈ ord, 0 < bst s m ∧ m ≠ to
theorem step_in {p : Pl} (hok : OkP p) {bl : List Int} {to m x : Int} (h : StepR p bl to m x) : (0 ≤ m ∧ m < p.ms.length) ∧ (0 ≤ x ∧ x < p.ms.length) ∧ m ≠ x ∧ 0 ≤ tAt p x := by
  obtain ⟨h1, h2, h3, _, _⟩ := hok.ins _ h.1
  dsimp only at h1 h2 h3
  unfold inN at h1 h2
  simp only [Bool.and_eq_true, decide_eq_true_eq] at h1 h2
  refine ⟨h1, h2, h3, ?_⟩
  obtain ⟨k, rfl⟩ : ∃ k : Nat, x = k := ⟨x.toNat, by omega⟩
  have hk : k < p.ms.length := by omega
  rw [tAt_nat hk]
  exact (hok.times _ (List.getElem_mem hk)).1
theorem DjR.start {p : Pl} (hok : OkP p) (bl : List Int) (to fr : Int) (hf : 0 ≤ fr ∧ fr < p.ms.length) : DjR p bl to fr (start18 fr) [] := by
  have hle := hok.le
  have hb : ∀ x, 0 ≤ x → bst (start18 fr) x = if fr = x then 1 else 0 := fun x hx => by
    have := bst_set ⟨List.replicate 64 0, List.replicate 64 0, List.replicate 64 false⟩ (x := fr) (y := x) (v := 1) (List.replicate 64 0) (List.replicate 64 false) (by simp) (by omega) hx
    unfold start18
    rw [this]
    congr 1
    unfold bst
    rw [List.getD_eq_getElem?_getD, List.getElem?_replicate]
    split <;> rfl
  refine ⟨by simp [start18], by simp [start18], by simp [start18], List.nodup_nil, by simp, fun x h1 h2 => ?_, by rw [hb fr hf.1, if_pos rfl], fun x hx => by rw [hb x hx]; split <;> omega, fun x hx hne h => ?_, by simp, by simp, by simp⟩
  · simp only [start18, List.not_mem_nil, iff_false, Bool.not_eq_true]
    rw [List.getD_eq_getElem?_getD, List.getElem?_replicate]
    split <;> rfl
  · rw [hb x hx, if_neg (Ne.symm hne)] at h; omega
theorem mem_nextL {p : Pl} {m x : Int} : x ∈ nextL p m ↔ (⟨m, x⟩ : Ar) ∈ p.arcs := by
  unfold nextL
  constructor
  · intro h
    obtain ⟨a, ha, rfl⟩ := List.mem_map.1 h
    obtain ⟨h1, h2⟩ := List.mem_filter.1 ha
    obtain ⟨a1, a2⟩ := a
    have : a1 = m := by simpa using h2
    subst this; exact h1
  · intro h
    exact List.mem_map.2 ⟨_, List.mem_filter.2 ⟨h, by simp⟩, rfl⟩
theorem DjR.round {p : Pl} (hok : OkP p) {bl : List Int} {to fr : Int} {s : RtS} {ord : List Int} (h : DjR p bl to fr s ord) (hf : 0 ≤ fr ∧ fr < p.ms.length) (h0 : 0 ≤ pickTo s p.ms.length) (hto : pickTo s p.ms.length ≠ to) :
    DjR p bl to fr (roundR p bl to s) (ord ++ [pickTo s p.ms.length]) := by
  have hle := hok.le
  obtain ⟨_, hmn⟩ := pickTo_bd s p.ms.length
  obtain ⟨hmd, hmb⟩ := pickTo_open s _ h0
  have hmin := fun j hj a b => (pickTo_min s p.ms.length j hj a b).2
  have hrd := roundR_done p bl to s
  have hmo : pickTo s p.ms.length ∉ ord := fun hh => by rw [(h.od _ h0 (by omega)).2 hh] at hmd; cases hmd
  unfold roundR at hrd ⊢
  generalize pickTo s p.ms.length = m at *
  have hbm : 0 < bst s m := hmb
  have hst : ∀ y, bst ⟨s.best, s.before, s.done.set m.toNat true⟩ y = bst s y := fun _ => rfl
  have hnl : ∀ x ∈ nextL p m, 0 ≤ x ∧ x < 64 ∧ x ≠ m ∧ 0 ≤ tAt p x := fun x hx => by
    obtain ⟨h1, h2, h3, _, _⟩ := hok.ins _ (mem_nextL.1 hx)
    have hi := inN_nat h2
    dsimp only at h3 hi
    obtain ⟨k, rfl, hk⟩ := hi
    refine ⟨by omega, by omega, Ne.symm h3, ?_⟩
    rw [tAt_nat hk]; exact (hok.times _ (List.getElem_mem hk)).1
  have hg := relaxs_get (p := p) (bl := bl) (to := to) h0 (nextL p m) ⟨s.best, s.before, s.done.set m.toNat true⟩ h.l1 h.l2 hbm hnl
  generalize (nextL p m).foldl (relax p bl to m) ⟨s.best, s.before, s.done.set m.toNat true⟩ = s' at *
  have hH : ∀ y, hitR p bl to m ⟨s.best, s.before, s.done.set m.toNat true⟩ y ↔ hitR p bl to m s y := fun y => Iff.rfl
  have hf' : ∀ y, bfr ⟨s.best, s.before, s.done.set m.toNat true⟩ y = bfr s y := fun _ => rfl
  have B : ∀ y, 0 ≤ y → (y ∈ nextL p m ∧ hitR p bl to m s y → bst s' y = bst s m + tAt p y ∧ bfr s' y = m) ∧ (¬ (y ∈ nextL p m ∧ hitR p bl to m s y) → bst s' y = bst s y ∧ bfr s' y = bfr s y) := fun y hy => by
    obtain ⟨g1, g2, _, _⟩ := hg y hy
    exact ⟨fun k => ⟨g1.trans (if_pos k), g2.trans (if_pos k)⟩, fun k => ⟨g1.trans (if_neg k), g2.trans (if_neg k)⟩⟩
  have hstay : ∀ y ∈ ord, ¬ (y ∈ nextL p m ∧ hitR p bl to m s y) := fun y hy k => by
    have h1 := h.low y hy m h0 hmo hbm
    have h2 := (h.pos y hy).1
    have h3 := (hnl y k.1).2.2.2
    rcases k.2.2 with h4 | h4 <;> omega
  have hstm : ¬ (m ∈ nextL p m ∧ hitR p bl to m s m) := fun k => (hnl m k.1).2.2.1 rfl
  have hst' : ∀ y ∈ ord ++ [m], bst s' y = bst s y ∧ bfr s' y = bfr s y := fun y hy => by
    rcases List.mem_append.1 hy with hy | hy
    · exact (B y (h.oin y hy).1).2 (hstay y hy)
    · simp at hy; subst hy; exact (B y h0).2 hstm
  have hrange : ∀ x, 0 ≤ x → 0 < bst s x → x < p.ms.length := fun x hx hb => by
    by_cases e : x = fr
    · rw [e]; exact hf.2
    · exact (step_in hok (h.pre x hx e hb).2.1).2.1.2
  have hidx : ∀ y ∈ ord, (ord ++ [m]).idxOf y = ord.idxOf y := fun y hy => by rw [List.idxOf_append, if_pos hy]
  have hidm : (ord ++ [m]).idxOf m = ord.length := by rw [List.idxOf_append, if_neg hmo]; simp
  have hstep : ∀ y, y ∈ nextL p m ∧ hitR p bl to m s y → StepR p bl to m y := fun y k => ⟨mem_nextL.1 k.1, hto, k.2.1.1, k.2.1.2⟩
  refine ⟨(hg 0 (by omega)).2.2.1, (hg 0 (by omega)).2.2.2, by rw [hrd, List.length_set, h.l3], ?_, ?_, fun x h1 h2 => ?_, ?_, fun x hx => ?_, fun x hx hne hb => ?_, fun m' hm' x hx => ?_, fun m' hm' x hx hno hb => ?_, fun m' hm' => ?_⟩
  · rw [List.nodup_append]
    exact ⟨h.nd, by simp, fun a ha b hb e => by simp at hb; subst hb; subst e; exact hmo ha⟩
  · intro x hx
    rcases List.mem_append.1 hx with hx | hx
    · exact h.oin x hx
    · simp at hx; subst hx; exact ⟨h0, hmn⟩
  · have := h.od x h1 h2
    rw [hrd, List.getD_eq_getElem?_getD, List.getElem?_set]
    by_cases e : m = x
    · subst e; rw [if_pos rfl, if_pos (by rw [h.l3]; omega)]; simp
    · rw [if_neg (by omega), ← List.getD_eq_getElem?_getD, this]
      simp [Ne.symm e]
  · rw [((B fr hf.1).2 fun k => ?_).1]
    · exact h.b0
    · have h3 := (hnl fr k.1).2.2.2
      have h4 := h.b0
      rcases k.2.2 with h5 | h5 <;> omega
  · by_cases k : x ∈ nextL p m ∧ hitR p bl to m s x
    · rw [((B x hx).1 k).1]; have := (hnl x k.1).2.2.2; omega
    · rw [((B x hx).2 k).1]; exact h.nn x hx
  · by_cases k : x ∈ nextL p m ∧ hitR p bl to m s x
    · obtain ⟨e1, e2⟩ := (B x hx).1 k
      rw [e2]
      refine ⟨by simp, hstep x k, by rw [e1, (hst' m (by simp)).1], fun hxo => ?_⟩
      rcases List.mem_append.1 hxo with hxo | hxo
      · exact absurd k (hstay x hxo)
      · simp at hxo; subst hxo; exact absurd k hstm
    · obtain ⟨e1, e2⟩ := (B x hx).2 k
      rw [e1] at hb
      rw [e2]
      obtain ⟨p1, p2, p3, p4⟩ := h.pre x hx hne hb
      refine ⟨by simp [p1], p2, by rw [e1, (hst' _ (List.mem_append_left _ p1)).1]; exact p3, fun hxo => ?_⟩
      rw [hidx _ p1]
      rcases List.mem_append.1 hxo with hxo | hxo
      · rw [hidx _ hxo]; exact p4 hxo
      · simp at hxo; subst hxo; rw [hidm]; exact List.idxOf_lt_length_of_mem p1
  · have hx0 : 0 ≤ x := (step_in hok hx).2.1.1
    rcases List.mem_append.1 hm' with h1 | h1
    · obtain ⟨c1, c2⟩ := h.cls m' h1 x hx
      rw [(hst' m' hm').1]
      by_cases k : x ∈ nextL p m ∧ hitR p bl to m s x
      · rw [((B x hx0).1 k).1]
        have := (hnl x k.1).2.2.2
        rcases k.2.2 with h4 | h4 <;> omega
      · rw [((B x hx0).2 k).1]; exact ⟨c1, c2⟩
    · simp at h1; subst h1
      rw [(hst' m' hm').1]
      by_cases k : x ∈ nextL p m' ∧ hitR p bl to m' s x
      · rw [((B x hx0).1 k).1]
        have := (hnl x k.1).2.2.2
        omega
      · rw [((B x hx0).2 k).1]
        have hk : ¬ (bst s x = 0 ∨ bst s m' + tAt p x < bst s x) := fun hh => k ⟨mem_nextL.2 hx.1, ⟨hx.2.2.1, hx.2.2.2⟩, hh⟩
        have := h.nn x hx0
        omega
  · rw [(hst' m' hm').1]
    have hlow : bst s m' ≤ bst s m := by
      rcases List.mem_append.1 hm' with h1 | h1
      · exact h.low m' h1 m h0 hmo hbm
      · simp at h1; subst h1; exact Int.le_refl _
    by_cases k : x ∈ nextL p m ∧ hitR p bl to m s x
    · rw [((B x hx).1 k).1]
      have := (hnl x k.1).2.2.2
      omega
    · obtain ⟨e1, _⟩ := (B x hx).2 k
      rw [e1] at hb ⊢
      have hxo : x ∉ ord := fun hh => hno (by simp [hh])
      have hxn := hrange x hx hb
      have hdx : s.done.getD x.toNat false = false := by
        cases hd : s.done.getD x.toNat false with
        | false => rfl
        | true => exact absurd ((h.od x hx (by omega)).1 hd) hxo
      have := hmin x.toNat (by omega) hb hdx
      exact Int.le_trans hlow this
  · rw [(hst' m' hm').1]
    rcases List.mem_append.1 hm' with h1 | h1
    · exact h.pos m' h1
    · simp at h1; subst h1; exact ⟨hbm, hto⟩
theorem DjR.run {p : Pl} (hok : OkP p) {bl : List Int} {to fr : Int} (hf : 0 ≤ fr ∧ fr < p.ms.length) : ∀ (f : Nat) (s sf : RtS) (ord : List Int), DjR p bl to fr s ord → runR p bl to f s = some sf → ∃ ord', DjR p bl to fr sf ord' ∧ (pickTo sf p.ms.length < 0 ∨ pickTo sf p.ms.length = to)
  | 0, _, _, _, _, h => by unfold runR at h; cases h
  | f + 1, s, sf, ord, hd, h => by
    unfold runR at h
    split at h
    · rename_i hc
      cases h
      exact ⟨ord, hd, hc⟩
    · rename_i hc
      exact DjR.run hok hf f _ sf _ (hd.round hok hf (by omega) (fun e => hc (.inr e))) h
theorem DjR.best {p : Pl} (hok : OkP p) {bl : List Int} {to fr : Int} {s : RtS} {ord : List Int} (h : DjR p bl to fr s ord) (hf : 0 ≤ fr ∧ fr < p.ms.length) {x t : Int} (hw : WayT p bl to fr x t) :
    0 ≤ x ∧ x < p.ms.length ∧ ((x ∈ ord ∧ bst s x ≤ t) ∨ (0 ≤ pickTo s p.ms.length ∧ bst s (pickTo s p.ms.length) ≤ t)) := by
  have hle := hok.le
  have hopen : ∀ x : Int, 0 ≤ x → x < p.ms.length → x ∉ ord → 0 < bst s x → 0 ≤ pickTo s p.ms.length ∧ bst s (pickTo s p.ms.length) ≤ bst s x := fun x h1 h2 h3 h4 => by
    have hdx : s.done.getD x.toNat false = false := by
      cases hd : s.done.getD x.toNat false with
      | false => rfl
      | true => exact absurd ((h.od x h1 (by omega)).1 hd) h3
    exact pickTo_min s p.ms.length x.toNat (by omega) h4 hdx
  induction hw with
  | start =>
    refine ⟨hf.1, hf.2, ?_⟩
    have hb := h.b0
    by_cases e : fr ∈ ord
    · exact .inl ⟨e, by omega⟩
    · have := hopen fr hf.1 hf.2 e (by omega)
      exact .inr ⟨this.1, by omega⟩
  | @step m x t hw' hs ih =>
    obtain ⟨_, ⟨hx0, hx1⟩, _, ht⟩ := step_in hok hs
    refine ⟨hx0, hx1, ?_⟩
    rcases ih.2.2 with ⟨k1, k2⟩ | ⟨k1, k2⟩
    · obtain ⟨c1, c2⟩ := h.cls _ k1 _ hs
      by_cases e : x ∈ ord
      · exact .inl ⟨e, by omega⟩
      · have := hopen x hx0 hx1 e c1
        exact .inr ⟨this.1, by omega⟩
    · exact .inr ⟨k1, by omega⟩
end Go.Proofs.YtahpdkkpnkhnhaaGreatDoor
/- Plain: the machines that Route returns are a path of the least time. -/
namespace Go.Proofs.YtahpdkkpnkhnhaaGreatDoor
open Go Go.Proofs Go.RowKit Go.Shelf
inductive RtL (p : Pl) (bl : List Int) (to fr : Int) : List Int → Int → Int → Prop
  | one : RtL p bl to fr [fr] fr 1
  | snoc {l : List Int} {m t x : Int} : RtL p bl to fr l m t → StepR p bl to m x → x ∉ l → RtL p bl to fr (l ++ [x]) x (t + tAt p x)
theorem atK_shift (b : List Int) (x : Int) : ∀ k, atK b x (k + 1) = atK b (b.getD x.toNat 0) k
  | 0 => rfl
  | k + 1 => by
    show b.getD (atK b x (k + 1)).toNat 0 = b.getD (atK b (b.getD x.toNat 0) k).toNat 0
    rw [atK_shift b x k]
theorem trL_cons (b : List Int) (x : Int) (n : Nat) : trL b x (n + 1) = x :: trL b (b.getD x.toNat 0) n := by
  unfold trL
  rw [List.range_succ_eq_map, List.map_cons, List.map_map]
  congr 1
  exact List.map_congr_left fun k _ => atK_shift b x k
theorem DjR.back {p : Pl} {bl : List Int} {to fr : Int} {s : RtS} {ord : List Int} (h : DjR p bl to fr s ord) : ∀ (r : Nat) (x : Int), ord.idxOf x = r → 0 ≤ x → 0 < bst s x →
    ∃ n, n ≤ r ∧ atK s.before x n = fr ∧ (∀ k, k < n → atK s.before x k ≠ fr) ∧ RtL p bl to fr (trL s.before x n).reverse x (bst s x) ∧ ∀ y ∈ trL s.before x n, y = x ∨ ord.idxOf y < r := by
  intro r
  induction r using Nat.strongRecOn with
  | _ r ih =>
    intro x hr hx hb
    by_cases e : x = fr
    · subst e
      refine ⟨0, by omega, rfl, fun k hk => by omega, ?_, fun y hy => ?_⟩
      · rw [h.b0]; exact .one
      · simp [trL, atK] at hy; exact .inl hy
    · obtain ⟨p1, p2, p3, p4⟩ := h.pre x hx e hb
      have hlt : ord.idxOf (bfr s x) < r := by
        by_cases hxo : x ∈ ord
        · rw [← hr]; exact p4 hxo
        · rw [← hr, List.idxOf_eq_length hxo]; exact List.idxOf_lt_length_of_mem p1
      obtain ⟨n, n1, n2, n3, n4, n5⟩ := ih _ hlt (bfr s x) rfl (h.oin _ p1).1 (h.pos _ p1).1
      have hold : ∀ y ∈ trL s.before (bfr s x) n, ord.idxOf y < r := fun y hy => by
        rcases n5 y hy with rfl | h1
        · exact hlt
        · omega
      refine ⟨n + 1, by omega, by rw [atK_shift]; exact n2, fun k hk => ?_, ?_, fun y hy => ?_⟩
      · cases k with
        | zero => exact e
        | succ k => rw [atK_shift]; exact n3 k (by omega)
      · rw [trL_cons, List.reverse_cons, p3]
        refine .snoc n4 p2 fun hm => ?_
        have := hold x (List.mem_reverse.1 hm)
        omega
      · rw [trL_cons] at hy
        rcases List.mem_cons.1 hy with h1 | h1
        · exact .inl h1
        · exact .inr (hold y h1)
theorem tSum_append (p : Pl) : ∀ a b : List Int, tSum p (a ++ b) = tSum p a + tSum p b
  | [], b => by simp [tSum]
  | x :: a, b => by
    show tAt p x + tSum p (a ++ b) = tAt p x + tSum p a + tSum p b
    rw [tSum_append p a b]; omega
theorem getD_appL {l : List Int} {x : Int} {k : Nat} (h : k < l.length) : (l ++ [x]).getD k 0 = l.getD k 0 := by
  rw [List.getD_eq_getElem?_getD, List.getD_eq_getElem?_getD, List.getElem?_append_left h]
theorem getD_appR (l : List Int) (x : Int) : (l ++ [x]).getD l.length 0 = x := by
  rw [List.getD_eq_getElem?_getD, List.getElem?_append_right (Nat.le_refl _)]; simp
structure RtF (p : Pl) (bl : List Int) (to fr : Int) (l : List Int) (x t : Int) : Prop where
  len : 1 ≤ l.length
  hd : l.getD 0 0 = fr
  last : l.getD (l.length - 1) 0 = x
  nd : l.Nodup
  arcs : ∀ k, 0 < k → k < l.length → (⟨l.getD (k - 1) 0, l.getD k 0⟩ : Ar) ∈ p.arcs ∧ l.getD (k - 1) 0 ≠ to ∧ (l.getD k 0 = to ∨ cvB (kdA p (l.getD k 0)) = true)
  sum : tSum p l = tAt p fr + t - 1
  nb : ∀ y ∈ l, y = fr ∨ y ∉ bl
  way : WayT p bl to fr x t
theorem RtL.facts {p : Pl} {bl : List Int} {to fr : Int} {l : List Int} {x t : Int} (h : RtL p bl to fr l x t) : RtF p bl to fr l x t := by
  induction h with
  | one => exact ⟨by simp, rfl, rfl, by simp, fun k h1 h2 => by simp at h2; omega, by simp [tSum], by simp, .start⟩
  | @snoc l m t x h hs hx ih =>
    refine ⟨by simp, by rw [getD_appL (by have := ih.len; omega)]; exact ih.hd, ?_, ?_, fun k k1 k2 => ?_, ?_, fun y hy => ?_, .step ih.way hs⟩
    · rw [List.length_append, List.length_singleton, Nat.add_sub_cancel]; exact getD_appR l x
    · rw [List.nodup_append]
      exact ⟨ih.nd, by simp, fun a ha b hb e => by simp at hb; subst hb; subst e; exact hx ha⟩
    · rw [List.length_append, List.length_singleton] at k2
      by_cases e : k = l.length
      · subst e
        rw [getD_appR, getD_appL (by omega), ih.last]
        exact ⟨hs.1, hs.2.1, hs.2.2.1⟩
      · rw [getD_appL (by omega), getD_appL (by omega)]
        exact ih.arcs k k1 (by omega)
    · rw [tSum_append, ih.sum]; simp [tSum]; omega
    · rcases List.mem_append.1 hy with hy | hy
      · exact ih.nb y hy
      · simp at hy; subst hy; exact .inr hs.2.2.2
theorem RtF.path {p : Pl} {bl : List Int} {to fr : Int} {l : List Int} {t : Int} (h : RtF p bl to fr l to t) (hne : fr ≠ to) (hb : bgB (kdA p fr) = true) (he : enB (kdA p to) = true) : pathB p l = true := by
  have hl := h.len
  rw [pathB_iff]
  refine ⟨Nat.not_lt.1 fun hh => hne ?_, by rw [h.hd]; exact hb, by rw [h.last]; exact he, h.nd, fun k hk => ?_⟩
  · have e1 := h.hd
    have e2 := h.last
    rw [show l.length - 1 = 0 by omega, e1] at e2
    exact e2
  · unfold okK
    by_cases k0 : k = 0
    · simp [k0]
    · obtain ⟨a1, a2, a3⟩ := h.arcs k (by omega) hk
      rw [decide_eq_true a1, Bool.and_true]
      by_cases k1 : k + 1 = l.length
      · simp [k1]
      · obtain ⟨b1, b2, b3⟩ := h.arcs (k + 1) (by omega) (by omega)
        rw [Nat.add_sub_cancel] at b2
        rcases a3 with a3 | a3
        · exact absurd a3 b2
        · rw [a3, Bool.or_true, Bool.or_true]
def badR (p : Pl) (bl : List Int) (fr to : Int) : Bool := fr == to || !bgB (kdA p fr) || !enB (kdA p to) || bl.contains fr || bl.contains to
theorem rt_spec {p : Pl} {bl : List Int} {fr to : Int} (hck : ckPlant p = 0) (hu : unkE p.ms.length (fr :: to :: bl) = 0) :
    ∃ L c, RtOut p bl fr to L c ∧ ((c = 7 ∧ L = [] ∧ (badR p bl fr to = true ∨ ∀ t, ¬ WayT p bl to fr to t)) ∨
      (c = 0 ∧ badR p bl fr to = false ∧ ∃ t, RtF p bl to fr L to t ∧ pathB p L = true ∧ (∀ y ∈ L, y ∉ bl) ∧ ∀ t', WayT p bl to fr to t' → t ≤ t')) := by
  have hok := ckPlant_ok hck
  have hle := hok.le
  cases hbad : badR p bl fr to with
  | true =>
    exact ⟨[], 7, .inr ⟨hck, .inr ⟨hu, .inl ⟨hbad, rfl, rfl⟩⟩⟩, .inl ⟨rfl, rfl, .inl rfl⟩⟩
  | false =>
    have hin := unk_in18 hu
    have hf := hin fr (by simp)
    have ht := hin to (by simp)
    obtain ⟨sf, hsf⟩ := runR_start p bl to hok.le fr
    obtain ⟨ord, hd, hc⟩ := DjR.run hok hf 65 _ sf [] (DjR.start hok bl to fr hf) hsf
    have hb' := hbad
    unfold badR at hb'
    simp only [Bool.or_eq_false_iff, beq_eq_false_iff_ne, Bool.not_eq_false', List.contains_eq_mem, decide_eq_false_iff_not] at hb'
    obtain ⟨⟨⟨⟨b1, b2⟩, b3⟩, b4⟩, b5⟩ := hb'
    by_cases hneg : pickTo sf p.ms.length < 0
    · refine ⟨[], 7, .inr ⟨hck, .inr ⟨hu, .inr ⟨hbad, 65, sf, by omega, hsf, .inl ⟨hneg, rfl, rfl⟩⟩⟩⟩, .inl ⟨rfl, rfl, .inr fun t hw => ?_⟩⟩
      rcases (hd.best hok hf hw).2.2 with ⟨k1, _⟩ | ⟨k1, _⟩
      · exact (hd.pos to k1).2 rfl
      · omega
    · have hpt : pickTo sf p.ms.length = to := hc.resolve_left hneg
      obtain ⟨ho1, ho2⟩ := pickTo_open sf _ (by omega : 0 ≤ pickTo sf p.ms.length)
      rw [hpt] at ho1 ho2
      have hto : to ∉ ord := fun hh => (hd.pos to hh).2 rfl
      obtain ⟨n, n1, n2, n3, n4, _⟩ := hd.back _ to rfl ht.1 ho2
      have hol : ord.length ≤ p.ms.length := by
        have h1 : (ord.map Int.toNat).Nodup := by
          rw [List.nodup_iff_pairwise_ne, List.pairwise_map]
          refine List.Pairwise.imp_of_mem ?_ (List.nodup_iff_pairwise_ne.1 hd.nd)
          intro a b ha hb hab e
          have h1 := hd.oin a ha
          have h2 := hd.oin b hb
          exact hab (by omega)
        have h2 : (ord.map Int.toNat).length ≤ (List.range p.ms.length).length := h1.length_le_of_subset fun x hx => by
          obtain ⟨y, hy, rfl⟩ := List.mem_map.1 hx
          have := hd.oin y hy
          exact List.mem_range.2 (by omega)
        simpa using h2
      rw [List.idxOf_eq_length hto] at n1
      have hF := n4.facts
      refine ⟨_, 0, .inr ⟨hck, .inr ⟨hu, .inr ⟨hbad, 65, sf, by omega, hsf, .inr ⟨hneg, n, by omega, n2, n3, rfl, rfl⟩⟩⟩⟩, .inr ⟨rfl, rfl, _, hF, hF.path b1 b2 b3, fun y hy => ?_, fun t' hw => ?_⟩⟩
      · rcases hF.nb y hy with rfl | h1
        · exact b4
        · exact h1
      · rcases (hd.best hok hf hw).2.2 with ⟨k1, _⟩ | ⟨_, k2⟩
        · exact absurd k1 hto
        · rwa [hpt] at k2
end Go.Proofs.YtahpdkkpnkhnhaaGreatDoor
/- Plain: times that are improved until they do not change. -/
namespace Go.Proofs.YtahpdkkpnkhnhaaGreatDoor
open Go Go.Proofs Go.RowKit Go.Shelf
def negN (T : List Int) : Nat := T.countP (fun x => decide (x < 0))
structure BfR (p : Pl) (bl : List Int) (to fr : Int) (T : List Int) : Prop where
  len : T.length = p.ms.length
  st : T.getD fr.toNat 0 = tAt p fr
  snd : ∀ x : Nat, x < p.ms.length → 0 ≤ T.getD x 0 → ∃ t, WayT p bl to fr x t ∧ T.getD x 0 = tAt p fr + t - 1
  bd : ∀ x ∈ T, -1 ≤ x ∧ x + 100000 * negN T ≤ 6400000
theorem negN_set : ∀ (T : List Int) (x : Nat) (v : Int), x < T.length → 0 ≤ v → negN (T.set x v) + (if T.getD x 0 < 0 then 1 else 0) = negN T
  | [], x, v, h, _ => by simp at h
  | a :: r, 0, v, _, hv => by
    unfold negN
    simp only [List.set_cons_zero, List.countP_cons, List.getD_cons_zero, decide_eq_true_eq]
    rw [if_neg (by omega)]; omega
  | a :: r, x + 1, v, h, hv => by
    have := negN_set r x v (by simpa using h) hv
    unfold negN at this ⊢
    simp only [List.set_cons_succ, List.countP_cons, List.getD_cons_succ]
    omega
theorem getD_memI {T : List Int} {x : Nat} (h : x < T.length) : T.getD x 0 ∈ T := by
  rw [List.getD_eq_getElem?_getD, List.getElem?_eq_getElem h]; exact List.getElem_mem h
theorem getD_setI (T : List Int) (i x : Nat) (v : Int) (h : i < T.length) : (T.set i v).getD x 0 = if i = x then v else T.getD x 0 := by
  rw [List.getD_eq_getElem?_getD, List.getElem?_set, List.getD_eq_getElem?_getD]
  by_cases e : i = x
  · subst e; simp [h]
  · simp [e]
theorem bg_cvR {s : ByteArray} (h : bgB s = true) : cvB s = false := by
  unfold bgB at h
  simp only [Bool.or_eq_true, decide_eq_true_eq] at h
  unfold cvB
  exact decide_eq_false (by omega)
section
variable {p : Pl} {bl : List Int} {to fr : Int} {T : List Int}
theorem BfR.start (hok : OkP p) (hf : ∃ k : Nat, fr = k ∧ k < p.ms.length) : BfR p bl to fr ((List.replicate p.ms.length (-1)).set fr.toNat (tAt p fr)) := by
  obtain ⟨k, rfl, hk⟩ := hf
  rw [Int.toNat_natCast]
  have ht := hok.times _ (List.getElem_mem hk)
  rw [← tAt_nat hk] at ht
  have hl := hok.le
  have hr : ∀ x : Nat, x < p.ms.length → (List.replicate p.ms.length (-1 : Int)).getD x 0 = -1 := fun x hx => by
    rw [List.getD_eq_getElem?_getD, List.getElem?_replicate, if_pos hx]; rfl
  have hn : negN ((List.replicate p.ms.length (-1 : Int)).set k (tAt p k)) + 1 = p.ms.length := by
    have := negN_set (List.replicate p.ms.length (-1)) k (tAt p k) (by simpa using hk) ht.1
    rw [hr k hk, if_pos (by omega)] at this
    rw [this]; unfold negN
    have hc : (List.replicate p.ms.length (-1 : Int)).countP (fun x => decide (x < 0)) = p.ms.length := by rw [List.countP_replicate]; rfl
    exact hc
  refine ⟨by simp, ?_, fun x hx h0 => ?_, fun x hx => ?_⟩
  · rw [Int.toNat_natCast, getD_setI _ _ _ _ (by simpa using hk), if_pos rfl]
  · rw [getD_setI _ _ _ _ (by simpa using hk)] at h0 ⊢
    by_cases e : k = x
    · subst e
      rw [if_pos rfl]
      exact ⟨1, .start, by omega⟩
    · rw [if_neg e, hr x hx] at h0; omega
  · rcases List.mem_or_eq_of_mem_set hx with h1 | h1
    · have := List.eq_of_mem_replicate h1
      omega
    · omega
def ClsB (p : Pl) (bl : List Int) (to : Int) (T : List Int) (k : Nat) : Prop := ∀ i (h : i < p.arcs.length), i < k → StepR p bl to p.arcs[i].fr p.arcs[i].to → 0 ≤ T.getD p.arcs[i].fr.toNat 0 → 0 ≤ T.getD p.arcs[i].to.toNat 0 ∧ T.getD p.arcs[i].to.toNat 0 ≤ T.getD p.arcs[i].fr.toNat 0 + tAt p p.arcs[i].to
theorem BfR.all (hok : OkP p) (h : BfR p bl to fr T) (hc : ClsB p bl to T p.arcs.length) (hf0 : 0 ≤ tAt p fr) {x t : Int} (hw : WayT p bl to fr x t) : 0 ≤ T.getD x.toNat 0 ∧ T.getD x.toNat 0 ≤ tAt p fr + t - 1 := by
  induction hw with
  | start => rw [h.st]; omega
  | @step m x t _ hs ih =>
    obtain ⟨i, hi, e⟩ := List.mem_iff_getElem.1 hs.1
    have := hc i hi hi
    rw [e] at this
    have := this hs ih.1
    dsimp only at this
    omega
def ShR (p : Pl) (bl : List Int) (fr to v : Int) : Prop :=
  (badR p bl fr to = true → v = -1) ∧ (badR p bl fr to = false → (v = -1 ∧ ∀ t, ¬ WayT p bl to fr to t) ∨ (0 ≤ v ∧ ∃ t, WayT p bl to fr to t ∧ v = tAt p fr + t - 1 ∧ ∀ t', WayT p bl to fr to t' → t ≤ t'))
theorem BfR.done (hok : OkP p) (h : BfR p bl to fr T) (hc : ClsB p bl to T p.arcs.length) (hb : badR p bl fr to = false) (hf : ∃ k : Nat, fr = k ∧ k < p.ms.length) (ht : ∃ k : Nat, to = k ∧ k < p.ms.length) : ShR p bl fr to (T.getD to.toNat 0) := by
  obtain ⟨k, rfl, hk⟩ := hf
  obtain ⟨q, rfl, hq⟩ := ht
  have hlen := h.len
  have hf0 : 0 ≤ tAt p k := by rw [tAt_nat hk]; exact (hok.times _ (List.getElem_mem hk)).1
  refine ⟨fun h1 => by rw [hb] at h1; (cases h1), fun _ => ?_⟩
  rw [Int.toNat_natCast]
  by_cases h0 : 0 ≤ T.getD q 0
  · obtain ⟨t, hw, he⟩ := h.snd q hq h0
    refine .inr ⟨h0, t, hw, he, fun t' hw' => ?_⟩
    have := (h.all hok hc hf0 hw').2
    rw [Int.toNat_natCast] at this
    omega
  · have := (h.bd _ (getD_memI (x := q) (by omega))).1
    refine .inl ⟨by omega, fun t hw => ?_⟩
    have := (h.all hok hc hf0 hw).1
    rw [Int.toNat_natCast] at this
    omega
end
end Go.Proofs.YtahpdkkpnkhnhaaGreatDoor
