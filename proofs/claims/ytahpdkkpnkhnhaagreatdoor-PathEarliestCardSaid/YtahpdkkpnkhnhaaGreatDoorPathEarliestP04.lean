/- Lemmas on the way to the law PathEarliest (part 4): Ga Gb Pa Ta Kd Ke Kh Pb -/
import Derived.Test.YtahpdkkpnkhnhaaGreatDoorLib21
import Derived.Test.YtahpdkkpnkhnhaaGreatDoorLib27
import Derived.Test.YtahpdkkpnkhnhaaGreatDoorLib28
import Derived.Test.YtahpdkkpnkhnhaaGreatDoorLib29
set_option linter.unusedVariables false
set_option linter.unusedSimpArgs false

/- Plain: what Route finds: ways of the least time. -/
namespace Go.Proofs.YtahpdkkpnkhnhaaGreatDoor
open Go Go.Proofs Go.RowKit Go.Shelf
def StepR (p : Pl) (bl : List Int) (to m x : Int) : Prop := (⟨m, x⟩ : Ar) ∈ p.arcs ∧ m ≠ to ∧ (x = to ∨ cvB (kdA p x) = true) ∧ x ∉ bl
inductive WayT (p : Pl) (bl : List Int) (to fr : Int) : Int → Int → Prop
  | start : WayT p bl to fr fr 1
  | step {m x t : Int} : WayT p bl to fr m t → StepR p bl to m x → WayT p bl to fr x (t + tAt p x)
def bst (s : RtS) (x : Int) : Int := s.best.getD x.toNat 0
def bfr (s : RtS) (x : Int) : Int := s.before.getD x.toNat 0
def hitR (p : Pl) (bl : List Int) (to m : Int) (s : RtS) (x : Int) : Prop := ((x = to ∨ cvB (kdA p x) = true) ∧ x ∉ bl) ∧ (bst s x = 0 ∨ bst s m + tAt p x < bst s x)
instance hitR_dec (p : Pl) (bl : List Int) (to m : Int) (s : RtS) (x : Int) : Decidable (hitR p bl to m s x) := by unfold hitR; exact inferInstance
theorem relaxB_hit (p : Pl) (bl : List Int) (to m : Int) (s : RtS) (x : Int) : relaxB p bl to m s x = true ↔ hitR p bl to m s x := by
  unfold relaxB hitR bst
  simp only [Bool.and_eq_true, Bool.or_eq_true, beq_iff_eq, Bool.not_eq_true', decide_eq_true_eq, List.contains_eq_mem, decide_eq_false_iff_not]
theorem bst_set (s : RtS) {x y v : Int} (b : List Int) (d : List Bool) (h1 : s.best.length = 64) (hx : 0 ≤ x ∧ x < 64) (hy : 0 ≤ y) : bst ⟨s.best.set x.toNat v, b, d⟩ y = if x = y then v else bst s y := by
  unfold bst
  rw [getD_setF _ _ _ _ _ (by omega)]
  by_cases e : x = y
  · subst e; rw [if_pos rfl, if_pos rfl]
  · rw [if_neg e, if_neg (by omega)]
theorem bfr_set (s : RtS) {x y v : Int} (b : List Int) (d : List Bool) (h1 : s.before.length = 64) (hx : 0 ≤ x ∧ x < 64) (hy : 0 ≤ y) : bfr ⟨b, s.before.set x.toNat v, d⟩ y = if x = y then v else bfr s y := by
  unfold bfr
  rw [getD_setF _ _ _ _ _ (by omega)]
  by_cases e : x = y
  · subst e; rw [if_pos rfl, if_pos rfl]
  · rw [if_neg e, if_neg (by omega)]
theorem relax_get {p : Pl} {bl : List Int} {to m x : Int} {s : RtS} (h1 : s.best.length = 64) (h2 : s.before.length = 64) (hx : 0 ≤ x ∧ x < 64) (y : Int) (hy : 0 ≤ y) :
    (bst (relax p bl to m s x) y = if x = y ∧ hitR p bl to m s x then bst s m + tAt p x else bst s y) ∧ (bfr (relax p bl to m s x) y = if x = y ∧ hitR p bl to m s x then m else bfr s y) ∧
      (relax p bl to m s x).best.length = 64 ∧ (relax p bl to m s x).before.length = 64 := by
  unfold relax
  by_cases h : relaxB p bl to m s x = true
  · have hh := (relaxB_hit p bl to m s x).1 h
    rw [if_pos h]
    refine ⟨?_, ?_, by rw [List.length_set]; exact h1, by rw [List.length_set]; exact h2⟩
    · rw [bst_set s _ _ h1 hx hy]
      by_cases e : x = y
      · rw [if_pos e, if_pos ⟨e, hh⟩]; rfl
      · rw [if_neg e, if_neg (fun h => e h.1)]
    · rw [bfr_set s _ _ h2 hx hy]
      by_cases e : x = y
      · rw [if_pos e, if_pos ⟨e, hh⟩]
      · rw [if_neg e, if_neg (fun h => e h.1)]
  · have hh : ¬ hitR p bl to m s x := fun k => h ((relaxB_hit p bl to m s x).2 k)
    rw [if_neg h]
    exact ⟨by rw [if_neg (fun k => hh k.2)], by rw [if_neg (fun k => hh k.2)], h1, h2⟩
theorem relaxs_get {p : Pl} {bl : List Int} {to m : Int} (hm : 0 ≤ m) : ∀ (l : List Int) (s : RtS), s.best.length = 64 → s.before.length = 64 → 0 < bst s m → (∀ x ∈ l, 0 ≤ x ∧ x < 64 ∧ x ≠ m ∧ 0 ≤ tAt p x) → ∀ y, 0 ≤ y →
    (bst (l.foldl (relax p bl to m) s) y = if y ∈ l ∧ hitR p bl to m s y then bst s m + tAt p y else bst s y) ∧ (bfr (l.foldl (relax p bl to m) s) y = if y ∈ l ∧ hitR p bl to m s y then m else bfr s y) ∧
      (l.foldl (relax p bl to m) s).best.length = 64 ∧ (l.foldl (relax p bl to m) s).before.length = 64
  | [], s, h1, h2, _, _, y, _ => ⟨by simp, by simp, h1, h2⟩
  | x :: l, s, h1, h2, h3, hl, y, hy => by
    obtain ⟨hx0, hx1, hxm, hxt⟩ := hl x (by simp)
    obtain ⟨r1, r2, r3, r4⟩ := relax_get (p := p) (bl := bl) (to := to) (m := m) h1 h2 ⟨hx0, hx1⟩ y hy
    obtain ⟨m1, _, _, _⟩ := relax_get (p := p) (bl := bl) (to := to) (m := m) h1 h2 ⟨hx0, hx1⟩ m hm
    rw [if_neg (fun h => hxm h.1)] at m1
    obtain ⟨i1, i2, i3, i4⟩ := relaxs_get (p := p) (bl := bl) (to := to) hm l (relax p bl to m s x) r3 r4 (by rw [m1]; exact h3) (fun z hz => hl z (by simp [hz])) y hy
    rw [List.foldl_cons]
    refine ⟨?_, ?_, i3, i4⟩
    · rw [i1, m1]
      by_cases e : x = y
      · subst e
        by_cases hh : hitR p bl to m s x
        · rw [if_pos ⟨rfl, hh⟩] at r1
          rw [if_neg (fun k => by have := k.2.2; rw [m1, r1] at this; omega), r1, if_pos ⟨by simp, hh⟩]
        · rw [if_neg (fun k => hh k.2)] at r1
          rw [if_neg (fun k => hh (by have := k.2; unfold hitR at this ⊢; rw [m1, r1] at this; exact this)), r1, if_neg (fun k => hh k.2)]
      · rw [if_neg (fun k => e k.1)] at r1
        have hiff : hitR p bl to m (relax p bl to m s x) y ↔ hitR p bl to m s y := by unfold hitR; rw [m1, r1]
        rw [r1]
        by_cases hh : y ∈ l ∧ hitR p bl to m s y
        · rw [if_pos ⟨hh.1, hiff.2 hh.2⟩, if_pos ⟨by simp [hh.1], hh.2⟩]
        · rw [if_neg (fun k => hh ⟨k.1, hiff.1 k.2⟩), if_neg (fun k => hh ⟨by rcases List.mem_cons.1 k.1 with h | h; exact absurd h.symm e; exact h, k.2⟩)]
    · rw [i2]
      by_cases e : x = y
      · subst e
        by_cases hh : hitR p bl to m s x
        · rw [if_pos ⟨rfl, hh⟩] at r1 r2
          rw [if_neg (fun k => by have := k.2.2; rw [m1, r1] at this; omega), r2, if_pos ⟨by simp, hh⟩]
        · rw [if_neg (fun k => hh k.2)] at r1 r2
          rw [if_neg (fun k => hh (by have := k.2; unfold hitR at this ⊢; rw [m1, r1] at this; exact this)), r2, if_neg (fun k => hh k.2)]
      · rw [if_neg (fun k => e k.1)] at r1 r2
        have hiff : hitR p bl to m (relax p bl to m s x) y ↔ hitR p bl to m s y := by unfold hitR; rw [m1, r1]
        rw [r2]
        by_cases hh : y ∈ l ∧ hitR p bl to m s y
        · rw [if_pos ⟨hh.1, hiff.2 hh.2⟩, if_pos ⟨by simp [hh.1], hh.2⟩]
        · rw [if_neg (fun k => hh ⟨k.1, hiff.1 k.2⟩), if_neg (fun k => hh ⟨by rcases List.mem_cons.1 k.1 with h | h; exact absurd h.symm e; exact h, k.2⟩)]
theorem pickTo_min (s : RtS) : ∀ (k j : Nat), j < k → 0 < s.best.getD j 0 → s.done.getD j false = false → 0 ≤ pickTo s k ∧ s.best.getD (pickTo s k).toNat 0 ≤ s.best.getD j 0
  | k + 1, j, hj, h1, h2 => by
    unfold pickTo pickS
    by_cases e : j = k
    · subst e
      split
      · rw [Int.toNat_natCast]; omega
      · rename_i hno
        by_cases hp : pickTo s j < 0
        · exact absurd ⟨h1, h2, .inl hp⟩ hno
        · refine ⟨by omega, Int.not_lt.1 fun hlt => hno ⟨h1, h2, .inr hlt⟩⟩
    · obtain ⟨i1, i2⟩ := pickTo_min s k j (by omega) h1 h2
      split
      · rename_i hc
        rw [Int.toNat_natCast]
        rcases hc.2.2 with h | h
        · omega
        · omega
      · exact ⟨i1, i2⟩
structure DjR (p : Pl) (bl : List Int) (to fr : Int) (s : RtS) (ord : List Int) : Prop where
  l1 : s.best.length = 64
  l2 : s.before.length = 64
  l3 : s.done.length = 64
  nd : ord.Nodup
  oin : ∀ x ∈ ord, 0 ≤ x ∧ x < p.ms.length
  od : ∀ x : Int, 0 ≤ x → x < 64 → (s.done.getD x.toNat false = true ↔ x ∈ ord)
  b0 : bst s fr = 1
  nn : ∀ x, 0 ≤ x → 0 ≤ bst s x
  pre : ∀ x, 0 ≤ x → x ≠ fr → 0 < bst s x → bfr s x ∈ ord ∧ StepR p bl to (bfr s x) x ∧ bst s x = bst s (bfr s x) + tAt p x ∧ (x ∈ ord → ord.idxOf (bfr s x) < ord.idxOf x)
  cls : ∀ m ∈ ord, ∀ x, StepR p bl to m x → 0 < bst s x ∧ bst s x ≤ bst s m + tAt p x
  low : ∀ m ∈ ord, ∀ x, 0 ≤ x → x ∉ ord → 0 < bst s x → bst s m ≤ bst s x
  pos : ∀ m ∈ ord, 0 < bst s m ∧ m ≠ to
theorem step_in {p : Pl} (hok : OkP p) {bl : List Int} {to m x : Int} (h : StepR p bl to m x) : (0 ≤ m ∧ m < p.ms.length) ∧ (0 ≤ x ∧ x < p.ms.length) ∧ m ≠ x ∧ 0 ≤ tAt p x := by
  obtain ⟨h1, h2, h3, _, _⟩ := hok.ins _ h.1
  dsimp only at h1 h2 h3
  unfold inN at h1 h2
  simp only [Bool.and_eq_true, decide_eq_true_eq] at h1 h2
  refine ⟨h1, h2, h3, ?_⟩
  obtain ⟨k, rfl⟩ : ∃ k : Nat, x = k := ⟨x.toNat, by omega⟩
  have hk : k < p.ms.length := by omega
  rw [tAt_nat hk]
  exact (hok.times _ (List.getElem_mem hk)).1
theorem DjR.start {p : Pl} (hok : OkP p) (bl : List Int) (to fr : Int) (hf : 0 ≤ fr ∧ fr < p.ms.length) : DjR p bl to fr (start18 fr) [] := by
  have hle := hok.le
  have hb : ∀ x, 0 ≤ x → bst (start18 fr) x = if fr = x then 1 else 0 := fun x hx => by
    have := bst_set ⟨List.replicate 64 0, List.replicate 64 0, List.replicate 64 false⟩ (x := fr) (y := x) (v := 1) (List.replicate 64 0) (List.replicate 64 false) (by simp) (by omega) hx
    unfold start18
    rw [this]
    congr 1
    unfold bst
    rw [List.getD_eq_getElem?_getD, List.getElem?_replicate]
    split <;> rfl
  refine ⟨by simp [start18], by simp [start18], by simp [start18], List.nodup_nil, by simp, fun x h1 h2 => ?_, by rw [hb fr hf.1, if_pos rfl], fun x hx => by rw [hb x hx]; split <;> omega, fun x hx hne h => ?_, by simp, by simp, by simp⟩
  · simp only [start18, List.not_mem_nil, iff_false, Bool.not_eq_true]
    rw [List.getD_eq_getElem?_getD, List.getElem?_replicate]
    split <;> rfl
  · rw [hb x hx, if_neg (Ne.symm hne)] at h; omega
theorem mem_nextL {p : Pl} {m x : Int} : x ∈ nextL p m ↔ (⟨m, x⟩ : Ar) ∈ p.arcs := by
  unfold nextL
  constructor
  · intro h
    obtain ⟨a, ha, rfl⟩ := List.mem_map.1 h
    obtain ⟨h1, h2⟩ := List.mem_filter.1 ha
    obtain ⟨a1, a2⟩ := a
    have : a1 = m := by simpa using h2
    subst this; exact h1
  · intro h
    exact List.mem_map.2 ⟨_, List.mem_filter.2 ⟨h, by simp⟩, rfl⟩
theorem DjR.round {p : Pl} (hok : OkP p) {bl : List Int} {to fr : Int} {s : RtS} {ord : List Int} (h : DjR p bl to fr s ord) (hf : 0 ≤ fr ∧ fr < p.ms.length) (h0 : 0 ≤ pickTo s p.ms.length) (hto : pickTo s p.ms.length ≠ to) :
    DjR p bl to fr (roundR p bl to s) (ord ++ [pickTo s p.ms.length]) := by
  have hle := hok.le
  obtain ⟨_, hmn⟩ := pickTo_bd s p.ms.length
  obtain ⟨hmd, hmb⟩ := pickTo_open s _ h0
  have hmin := fun j hj a b => (pickTo_min s p.ms.length j hj a b).2
  have hrd := roundR_done p bl to s
  have hmo : pickTo s p.ms.length ∉ ord := fun hh => by rw [(h.od _ h0 (by omega)).2 hh] at hmd; cases hmd
  unfold roundR at hrd ⊢
  generalize pickTo s p.ms.length = m at *
  have hbm : 0 < bst s m := hmb
  have hst : ∀ y, bst ⟨s.best, s.before, s.done.set m.toNat true⟩ y = bst s y := fun _ => rfl
  have hnl : ∀ x ∈ nextL p m, 0 ≤ x ∧ x < 64 ∧ x ≠ m ∧ 0 ≤ tAt p x := fun x hx => by
    obtain ⟨h1, h2, h3, _, _⟩ := hok.ins _ (mem_nextL.1 hx)
    have hi := inN_nat h2
    dsimp only at h3 hi
    obtain ⟨k, rfl, hk⟩ := hi
    refine ⟨by omega, by omega, Ne.symm h3, ?_⟩
    rw [tAt_nat hk]; exact (hok.times _ (List.getElem_mem hk)).1
  have hg := relaxs_get (p := p) (bl := bl) (to := to) h0 (nextL p m) ⟨s.best, s.before, s.done.set m.toNat true⟩ h.l1 h.l2 hbm hnl
  generalize (nextL p m).foldl (relax p bl to m) ⟨s.best, s.before, s.done.set m.toNat true⟩ = s' at *
  have hH : ∀ y, hitR p bl to m ⟨s.best, s.before, s.done.set m.toNat true⟩ y ↔ hitR p bl to m s y := fun y => Iff.rfl
  have hf' : ∀ y, bfr ⟨s.best, s.before, s.done.set m.toNat true⟩ y = bfr s y := fun _ => rfl
  have B : ∀ y, 0 ≤ y → (y ∈ nextL p m ∧ hitR p bl to m s y → bst s' y = bst s m + tAt p y ∧ bfr s' y = m) ∧ (¬ (y ∈ nextL p m ∧ hitR p bl to m s y) → bst s' y = bst s y ∧ bfr s' y = bfr s y) := fun y hy => by
    obtain ⟨g1, g2, _, _⟩ := hg y hy
    exact ⟨fun k => ⟨g1.trans (if_pos k), g2.trans (if_pos k)⟩, fun k => ⟨g1.trans (if_neg k), g2.trans (if_neg k)⟩⟩
  have hstay : ∀ y ∈ ord, ¬ (y ∈ nextL p m ∧ hitR p bl to m s y) := fun y hy k => by
    have h1 := h.low y hy m h0 hmo hbm
    have h2 := (h.pos y hy).1
    have h3 := (hnl y k.1).2.2.2
    rcases k.2.2 with h4 | h4 <;> omega
  have hstm : ¬ (m ∈ nextL p m ∧ hitR p bl to m s m) := fun k => (hnl m k.1).2.2.1 rfl
  have hst' : ∀ y ∈ ord ++ [m], bst s' y = bst s y ∧ bfr s' y = bfr s y := fun y hy => by
    rcases List.mem_append.1 hy with hy | hy
    · exact (B y (h.oin y hy).1).2 (hstay y hy)
    · simp at hy; subst hy; exact (B y h0).2 hstm
  have hrange : ∀ x, 0 ≤ x → 0 < bst s x → x < p.ms.length := fun x hx hb => by
    by_cases e : x = fr
    · rw [e]; exact hf.2
    · exact (step_in hok (h.pre x hx e hb).2.1).2.1.2
  have hidx : ∀ y ∈ ord, (ord ++ [m]).idxOf y = ord.idxOf y := fun y hy => by rw [List.idxOf_append, if_pos hy]
  have hidm : (ord ++ [m]).idxOf m = ord.length := by rw [List.idxOf_append, if_neg hmo]; simp
  have hstep : ∀ y, y ∈ nextL p m ∧ hitR p bl to m s y → StepR p bl to m y := fun y k => ⟨mem_nextL.1 k.1, hto, k.2.1.1, k.2.1.2⟩
  refine ⟨(hg 0 (by omega)).2.2.1, (hg 0 (by omega)).2.2.2, by rw [hrd, List.length_set, h.l3], ?_, ?_, fun x h1 h2 => ?_, ?_, fun x hx => ?_, fun x hx hne hb => ?_, fun m' hm' x hx => ?_, fun m' hm' x hx hno hb => ?_, fun m' hm' => ?_⟩
  · rw [List.nodup_append]
    exact ⟨h.nd, by simp, fun a ha b hb e => by simp at hb; subst hb; subst e; exact hmo ha⟩
  · intro x hx
    rcases List.mem_append.1 hx with hx | hx
    · exact h.oin x hx
    · simp at hx; subst hx; exact ⟨h0, hmn⟩
  · have := h.od x h1 h2
    rw [hrd, List.getD_eq_getElem?_getD, List.getElem?_set]
    by_cases e : m = x
    · subst e; rw [if_pos rfl, if_pos (by rw [h.l3]; omega)]; simp
    · rw [if_neg (by omega), ← List.getD_eq_getElem?_getD, this]
      simp [Ne.symm e]
  · rw [((B fr hf.1).2 fun k => ?_).1]
    · exact h.b0
    · have h3 := (hnl fr k.1).2.2.2
      have h4 := h.b0
      rcases k.2.2 with h5 | h5 <;> omega
  · by_cases k : x ∈ nextL p m ∧ hitR p bl to m s x
    · rw [((B x hx).1 k).1]; have := (hnl x k.1).2.2.2; omega
    · rw [((B x hx).2 k).1]; exact h.nn x hx
  · by_cases k : x ∈ nextL p m ∧ hitR p bl to m s x
    · obtain ⟨e1, e2⟩ := (B x hx).1 k
      rw [e2]
      refine ⟨by simp, hstep x k, by rw [e1, (hst' m (by simp)).1], fun hxo => ?_⟩
      rcases List.mem_append.1 hxo with hxo | hxo
      · exact absurd k (hstay x hxo)
      · simp at hxo; subst hxo; exact absurd k hstm
    · obtain ⟨e1, e2⟩ := (B x hx).2 k
      rw [e1] at hb
      rw [e2]
      obtain ⟨p1, p2, p3, p4⟩ := h.pre x hx hne hb
      refine ⟨by simp [p1], p2, by rw [e1, (hst' _ (List.mem_append_left _ p1)).1]; exact p3, fun hxo => ?_⟩
      rw [hidx _ p1]
      rcases List.mem_append.1 hxo with hxo | hxo
      · rw [hidx _ hxo]; exact p4 hxo
      · simp at hxo; subst hxo; rw [hidm]; exact List.idxOf_lt_length_of_mem p1
  · have hx0 : 0 ≤ x := (step_in hok hx).2.1.1
    rcases List.mem_append.1 hm' with h1 | h1
    · obtain ⟨c1, c2⟩ := h.cls m' h1 x hx
      rw [(hst' m' hm').1]
      by_cases k : x ∈ nextL p m ∧ hitR p bl to m s x
      · rw [((B x hx0).1 k).1]
        have := (hnl x k.1).2.2.2
        rcases k.2.2 with h4 | h4 <;> omega
      · rw [((B x hx0).2 k).1]; exact ⟨c1, c2⟩
    · simp at h1; subst h1
      rw [(hst' m' hm').1]
      by_cases k : x ∈ nextL p m' ∧ hitR p bl to m' s x
      · rw [((B x hx0).1 k).1]
        have := (hnl x k.1).2.2.2
        omega
      · rw [((B x hx0).2 k).1]
        have hk : ¬ (bst s x = 0 ∨ bst s m' + tAt p x < bst s x) := fun hh => k ⟨mem_nextL.2 hx.1, ⟨hx.2.2.1, hx.2.2.2⟩, hh⟩
        have := h.nn x hx0
        omega
  · rw [(hst' m' hm').1]
    have hlow : bst s m' ≤ bst s m := by
      rcases List.mem_append.1 hm' with h1 | h1
      · exact h.low m' h1 m h0 hmo hbm
      · simp at h1; subst h1; exact Int.le_refl _
    by_cases k : x ∈ nextL p m ∧ hitR p bl to m s x
    · rw [((B x hx).1 k).1]
      have := (hnl x k.1).2.2.2
      omega
    · obtain ⟨e1, _⟩ := (B x hx).2 k
      rw [e1] at hb ⊢
      have hxo : x ∉ ord := fun hh => hno (by simp [hh])
      have hxn := hrange x hx hb
      have hdx : s.done.getD x.toNat false = false := by
        cases hd : s.done.getD x.toNat false with
        | false => rfl
        | true => exact absurd ((h.od x hx (by omega)).1 hd) hxo
      have := hmin x.toNat (by omega) hb hdx
      exact Int.le_trans hlow this
  · rw [(hst' m' hm').1]
    rcases List.mem_append.1 hm' with h1 | h1
    · exact h.pos m' h1
    · simp at h1; subst h1; exact ⟨hbm, hto⟩
theorem DjR.run {p : Pl} (hok : OkP p) {bl : List Int} {to fr : Int} (hf : 0 ≤ fr ∧ fr < p.ms.length) : ∀ (f : Nat) (s sf : RtS) (ord : List Int), DjR p bl to fr s ord → runR p bl to f s = some sf → ∃ ord', DjR p bl to fr sf ord' ∧ (pickTo sf p.ms.length < 0 ∨ pickTo sf p.ms.length = to)
  | 0, _, _, _, _, h => by unfold runR at h; cases h
  | f + 1, s, sf, ord, hd, h => by
    unfold runR at h
    split at h
    · rename_i hc
      cases h
      exact ⟨ord, hd, hc⟩
    · rename_i hc
      exact DjR.run hok hf f _ sf _ (hd.round hok hf (by omega) (fun e => hc (.inr e))) h
theorem DjR.best {p : Pl} (hok : OkP p) {bl : List Int} {to fr : Int} {s : RtS} {ord : List Int} (h : DjR p bl to fr s ord) (hf : 0 ≤ fr ∧ fr < p.ms.length) {x t : Int} (hw : WayT p bl to fr x t) :
    0 ≤ x ∧ x < p.ms.length ∧ ((x ∈ ord ∧ bst s x ≤ t) ∨ (0 ≤ pickTo s p.ms.length ∧ bst s (pickTo s p.ms.length) ≤ t)) := by
  have hle := hok.le
  have hopen : ∀ x : Int, 0 ≤ x → x < p.ms.length → x ∉ ord → 0 < bst s x → 0 ≤ pickTo s p.ms.length ∧ bst s (pickTo s p.ms.length) ≤ bst s x := fun x h1 h2 h3 h4 => by
    have hdx : s.done.getD x.toNat false = false := by
      cases hd : s.done.getD x.toNat false with
      | false => rfl
      | true => exact absurd ((h.od x h1 (by omega)).1 hd) h3
    exact pickTo_min s p.ms.length x.toNat (by omega) h4 hdx
  induction hw with
  | start =>
    refine ⟨hf.1, hf.2, ?_⟩
    have hb := h.b0
    by_cases e : fr ∈ ord
    · exact .inl ⟨e, by omega⟩
    · have := hopen fr hf.1 hf.2 e (by omega)
      exact .inr ⟨this.1, by omega⟩
  | @step m x t hw' hs ih =>
    obtain ⟨_, ⟨hx0, hx1⟩, _, ht⟩ := step_in hok hs
    refine ⟨hx0, hx1, ?_⟩
    rcases ih.2.2 with ⟨k1, k2⟩ | ⟨k1, k2⟩
    · obtain ⟨c1, c2⟩ := h.cls _ k1 _ hs
      by_cases e : x ∈ ord
      · exact .inl ⟨e, by omega⟩
      · have := hopen x hx0 hx1 e c1
        exact .inr ⟨this.1, by omega⟩
    · exact .inr ⟨k1, by omega⟩
end Go.Proofs.YtahpdkkpnkhnhaaGreatDoor
/- Plain: the machines that Route returns are a path of the least time. -/
namespace Go.Proofs.YtahpdkkpnkhnhaaGreatDoor
open Go Go.Proofs Go.RowKit Go.Shelf
structure RtF (p : Pl) (bl : List Int) (to fr : Int) (l : List Int) (x t : Int) : Prop where
  len : 1 ≤ l.length
  hd : l.getD 0 0 = fr
  last : l.getD (l.length - 1) 0 = x
  nd : l.Nodup
  arcs : ∀ k, 0 < k → k < l.length → (⟨l.getD (k - 1) 0, l.getD k 0⟩ : Ar) ∈ p.arcs ∧ l.getD (k - 1) 0 ≠ to ∧ (l.getD k 0 = to ∨ cvB (kdA p (l.getD k 0)) = true)
  sum : tSum p l = tAt p fr + t - 1
  nb : ∀ y ∈ l, y = fr ∨ y ∉ bl
  way : WayT p bl to fr x t
theorem RtF.path {p : Pl} {bl : List Int} {to fr : Int} {l : List Int} {t : Int} (h : RtF p bl to fr l to t) (hne : fr ≠ to) (hb : bgB (kdA p fr) = true) (he : enB (kdA p to) = true) : pathB p l = true := by
  have hl := h.len
  rw [pathB_iff]
  refine ⟨Nat.not_lt.1 fun hh => hne ?_, by rw [h.hd]; exact hb, by rw [h.last]; exact he, h.nd, fun k hk => ?_⟩
  · have e1 := h.hd
    have e2 := h.last
    rw [show l.length - 1 = 0 by omega, e1] at e2
    exact e2
  · unfold okK
    by_cases k0 : k = 0
    · simp [k0]
    · obtain ⟨a1, a2, a3⟩ := h.arcs k (by omega) hk
      rw [decide_eq_true a1, Bool.and_true]
      by_cases k1 : k + 1 = l.length
      · simp [k1]
      · obtain ⟨b1, b2, b3⟩ := h.arcs (k + 1) (by omega) (by omega)
        rw [Nat.add_sub_cancel] at b2
        rcases a3 with a3 | a3
        · exact absurd a3 b2
        · rw [a3, Bool.or_true, Bool.or_true]
def badR (p : Pl) (bl : List Int) (fr to : Int) : Bool := fr == to || !bgB (kdA p fr) || !enB (kdA p to) || bl.contains fr || bl.contains to
end Go.Proofs.YtahpdkkpnkhnhaaGreatDoor
/- Plain: times that are improved until they do not change. -/
namespace Go.Proofs.YtahpdkkpnkhnhaaGreatDoor
open Go Go.Proofs Go.RowKit Go.Shelf
def negN (T : List Int) : Nat := T.countP (fun x => decide (x < 0))
structure BfR (p : Pl) (bl : List Int) (to fr : Int) (T : List Int) : Prop where
  len : T.length = p.ms.length
  st : T.getD fr.toNat 0 = tAt p fr
  snd : ∀ x : Nat, x < p.ms.length → 0 ≤ T.getD x 0 → ∃ t, WayT p bl to fr x t ∧ T.getD x 0 = tAt p fr + t - 1
  bd : ∀ x ∈ T, -1 ≤ x ∧ x + 100000 * negN T ≤ 6400000
theorem negN_set : ∀ (T : List Int) (x : Nat) (v : Int), x < T.length → 0 ≤ v → negN (T.set x v) + (if T.getD x 0 < 0 then 1 else 0) = negN T
  | [], x, v, h, _ => by simp at h
  | a :: r, 0, v, _, hv => by
    unfold negN
    simp only [List.set_cons_zero, List.countP_cons, List.getD_cons_zero, decide_eq_true_eq]
    rw [if_neg (by omega)]; omega
  | a :: r, x + 1, v, h, hv => by
    have := negN_set r x v (by simpa using h) hv
    unfold negN at this ⊢
    simp only [List.set_cons_succ, List.countP_cons, List.getD_cons_succ]
    omega
theorem getD_memI {T : List Int} {x : Nat} (h : x < T.length) : T.getD x 0 ∈ T := by
  rw [List.getD_eq_getElem?_getD, List.getElem?_eq_getElem h]; exact List.getElem_mem h
theorem getD_setI (T : List Int) (i x : Nat) (v : Int) (h : i < T.length) : (T.set i v).getD x 0 = if i = x then v else T.getD x 0 := by
  rw [List.getD_eq_getElem?_getD, List.getElem?_set, List.getD_eq_getElem?_getD]
  by_cases e : i = x
  · subst e; simp [h]
  · simp [e]
section
variable {p : Pl} {bl : List Int} {to fr : Int} {T : List Int}
theorem BfR.start (hok : OkP p) (hf : ∃ k : Nat, fr = k ∧ k < p.ms.length) : BfR p bl to fr ((List.replicate p.ms.length (-1)).set fr.toNat (tAt p fr)) := by
  obtain ⟨k, rfl, hk⟩ := hf
  rw [Int.toNat_natCast]
  have ht := hok.times _ (List.getElem_mem hk)
  rw [← tAt_nat hk] at ht
  have hl := hok.le
  have hr : ∀ x : Nat, x < p.ms.length → (List.replicate p.ms.length (-1 : Int)).getD x 0 = -1 := fun x hx => by
    rw [List.getD_eq_getElem?_getD, List.getElem?_replicate, if_pos hx]; rfl
  have hn : negN ((List.replicate p.ms.length (-1 : Int)).set k (tAt p k)) + 1 = p.ms.length := by
    have := negN_set (List.replicate p.ms.length (-1)) k (tAt p k) (by simpa using hk) ht.1
    rw [hr k hk, if_pos (by omega)] at this
    rw [this]; unfold negN
    have hc : (List.replicate p.ms.length (-1 : Int)).countP (fun x => decide (x < 0)) = p.ms.length := by rw [List.countP_replicate]; rfl
    exact hc
  refine ⟨by simp, ?_, fun x hx h0 => ?_, fun x hx => ?_⟩
  · rw [Int.toNat_natCast, getD_setI _ _ _ _ (by simpa using hk), if_pos rfl]
  · rw [getD_setI _ _ _ _ (by simpa using hk)] at h0 ⊢
    by_cases e : k = x
    · subst e
      rw [if_pos rfl]
      exact ⟨1, .start, by omega⟩
    · rw [if_neg e, hr x hx] at h0; omega
  · rcases List.mem_or_eq_of_mem_set hx with h1 | h1
    · have := List.eq_of_mem_replicate h1
      omega
    · omega
def ClsB (p : Pl) (bl : List Int) (to : Int) (T : List Int) (k : Nat) : Prop := ∀ i (h : i < p.arcs.length), i < k → StepR p bl to p.arcs[i].fr p.arcs[i].to → 0 ≤ T.getD p.arcs[i].fr.toNat 0 → 0 ≤ T.getD p.arcs[i].to.toNat 0 ∧ T.getD p.arcs[i].to.toNat 0 ≤ T.getD p.arcs[i].fr.toNat 0 + tAt p p.arcs[i].to
theorem BfR.all (hok : OkP p) (h : BfR p bl to fr T) (hc : ClsB p bl to T p.arcs.length) (hf0 : 0 ≤ tAt p fr) {x t : Int} (hw : WayT p bl to fr x t) : 0 ≤ T.getD x.toNat 0 ∧ T.getD x.toNat 0 ≤ tAt p fr + t - 1 := by
  induction hw with
  | start => rw [h.st]; omega
  | @step m x t _ hs ih =>
    obtain ⟨i, hi, e⟩ := List.mem_iff_getElem.1 hs.1
    have := hc i hi hi
    rw [e] at this
    have := this hs ih.1
    dsimp only at this
    omega
def ShR (p : Pl) (bl : List Int) (fr to v : Int) : Prop :=
  (badR p bl fr to = true → v = -1) ∧ (badR p bl fr to = false → (v = -1 ∧ ∀ t, ¬ WayT p bl to fr to t) ∨ (0 ≤ v ∧ ∃ t, WayT p bl to fr to t ∧ v = tAt p fr + t - 1 ∧ ∀ t', WayT p bl to fr to t' → t ≤ t'))
theorem BfR.done (hok : OkP p) (h : BfR p bl to fr T) (hc : ClsB p bl to T p.arcs.length) (hb : badR p bl fr to = false) (hf : ∃ k : Nat, fr = k ∧ k < p.ms.length) (ht : ∃ k : Nat, to = k ∧ k < p.ms.length) : ShR p bl fr to (T.getD to.toNat 0) := by
  obtain ⟨k, rfl, hk⟩ := hf
  obtain ⟨q, rfl, hq⟩ := ht
  have hlen := h.len
  have hf0 : 0 ≤ tAt p k := by rw [tAt_nat hk]; exact (hok.times _ (List.getElem_mem hk)).1
  refine ⟨fun h1 => by rw [hb] at h1; (cases h1), fun _ => ?_⟩
  rw [Int.toNat_natCast]
  by_cases h0 : 0 ≤ T.getD q 0
  · obtain ⟨t, hw, he⟩ := h.snd q hq h0
    refine .inr ⟨h0, t, hw, he, fun t' hw' => ?_⟩
    have := (h.all hok hc hf0 hw').2
    rw [Int.toNat_natCast] at this
    omega
  · have := (h.bd _ (getD_memI (x := q) (by omega))).1
    refine .inl ⟨by omega, fun t hw => ?_⟩
    have := (h.all hok hc hf0 hw).1
    rw [Int.toNat_natCast] at this
    omega
end
end Go.Proofs.YtahpdkkpnkhnhaaGreatDoor
/- Plain: the search of CheckCut finds a way to a sink exactly if there is one. -/
namespace Go.Proofs.YtahpdkkpnkhnhaaGreatDoor
open Go Go.Proofs Go.RowKit Go.Shelf
def inS (s : List Bool) (m : Int) : Prop := s.getD m.toNat false = true
theorem contains_iff {l : List Int} {x : Int} : l.contains x = true ↔ x ∈ l := by simp
structure SeenR (p : Pl) (cut snk src : List Int) (s s' : List Bool) : Prop where
  len : s'.length = s.length
  le : ∀ x : Int, inS s x → inS s' x
  new : ∀ x : Int, 0 ≤ x → inS s' x → ¬ inS s x → x ∉ snk ∧ ((cvB (kdA p x) = true ∨ x ∈ src) → ∀ y ∈ nextL p x, (cvB (kdA p y) = true ∨ y ∈ snk) → y ∈ cut ∨ inS s' y)
theorem SeenR.refl (p : Pl) (cut snk src : List Int) (s : List Bool) : SeenR p cut snk src s s := ⟨rfl, fun _ h => h, fun _ _ h h' => absurd h h'⟩
theorem SeenR.trans {p : Pl} {cut snk src : List Int} {a b c : List Bool} (h : SeenR p cut snk src a b) (k : SeenR p cut snk src b c) : SeenR p cut snk src a c :=
  ⟨k.len.trans h.len, fun x hx => k.le x (h.le x hx), fun x h0 hx hn => by
    by_cases hb : inS b x
    · obtain ⟨h1, h2⟩ := h.new x h0 hb hn
      refine ⟨h1, fun h3 y hy h4 => ?_⟩
      rcases h2 h3 y hy h4 with h5 | h5
      · exact .inl h5
      · exact .inr (k.le y h5)
    · exact k.new x h0 hx hb⟩
theorem OkE.good {p : Pl} {cut src snk : List Int} (he : OkE p src snk) {fr to : Int} (hf : fr ∈ src) (ht : to ∈ snk) (hc : fr ∉ cut) (hc' : to ∉ cut) : badR p cut fr to = false := by
  unfold badR
  rw [he.k1 _ hf, he.k2 _ ht]
  simp only [Bool.not_true, Bool.or_false, Bool.or_eq_false_iff, beq_eq_false_iff_ne, List.contains_eq_mem, decide_eq_false_iff_not]
  exact ⟨⟨fun e => he.ne _ ht (by rw [← e]; exact hf), hc⟩, hc'⟩
end Go.Proofs.YtahpdkkpnkhnhaaGreatDoor
/- Walks: whether two states are the same, in the reference. -/
namespace Go.Proofs.YtahpdkkpnkhnhaaGreatDoor
open Go Go.Proofs Go.RowKit Go.Shelf
set_option maxRecDepth 100000 in
set_option maxHeartbeats 1000000 in
@[go_sem] theorem eq100 (r1 r2 : Bool) (f1 f2 : Int) (g1 g2 : ByteArray) (w : World) : (Op.equalIn 10000 100 (.agg #[.bool r1, .int .i64 f1, .string g1]) (.agg #[.bool r2, .int .i64 f2, .string g2])).run Tryz.prog w = .ok (r1 == r2 && (f1 == f2 && g1.toList == g2.toList)) w := by
  have u3 := Tryz.underlying3
  have u4 := Tryz.underlying4
  have u9 := Tryz.underlying9
  have a3 := Tryz.isAgg3
  have a4 := Tryz.isAgg4
  have a9 := Tryz.isAgg9
  have z3 := Tryz.sizeOf3
  have z4 := Tryz.sizeOf4
  have z9 := Tryz.sizeOf9
  rw [show (10000 : Nat) = 9999 + 1 from rfl, Op.equalIn]
  simp only [Sem.run_bind, run_underlying Tryz.underlying100, Result.andThen_ok]
  go_simp
  by_cases h1 : r1 = r2 <;> by_cases h2 : f1 = f2 <;> by_cases h3 : g1.toList = g2.toList <;> simp [h1, h2, h3]
end Go.Proofs.YtahpdkkpnkhnhaaGreatDoor
/- Walks: small helpers of the laws on states; whether a machine is fed. -/
namespace Go.Proofs.YtahpdkkpnkhnhaaGreatDoor
open Go Go.Proofs Go.RowKit Go.Shelf
def SlL {α : Type} (f : α → List Value) (sz : Nat) (w : World) (B : Nat) (v : Value) (l : List α) : Prop :=
  ∃ a c, v = .slice a l.length c ∧ (l.length ≤ 9223372036854775807 ∧ l.length ≤ c) ∧ (0 < l.length → ∃ b off, a = some ⟨b, off, none⟩ ∧ b < B ∧
    ∀ i (h : i < l.length), At w b (off + i * sz) (f l[i]))
theorem SlL.later {α : Type} {f : α → List Value} {sz : Nat} {w w' : World} {v : Value} {l : List α} (h : SlL f sz w w.heap.size v l) (hb : Below w.heap.size w w') : SlL f sz w' w'.heap.size v l := by
  obtain ⟨a, c, h1, h2, h3⟩ := h
  refine ⟨a, c, h1, h2, fun h0 => ?_⟩
  obtain ⟨b, off, h4, h5, h6⟩ := h3 h0
  exact ⟨b, off, h4, Nat.lt_of_lt_of_le h5 hb.size, fun i hi => (h6 i hi).below hb h5⟩
end Go.Proofs.YtahpdkkpnkhnhaaGreatDoor
/- Walks: the law PathStarts. -/
namespace Go.Proofs.YtahpdkkpnkhnhaaGreatDoor
open Go Go.Proofs Go.RowKit Go.Shelf
theorem own_nil {w : World} {B : Nat} {v : Value} (h : Own Sx.enc 3 100 w B v []) : ∃ a c, v = .slice a 0 c := by
  obtain ⟨a, c, e⟩ := h.shape
  exact ⟨a, c, e⟩
theorem StE.bad {w : World} {E : Int} {L : List Sx} {e : Ending} {w' : World} (h : StE w E L e w') (hE : E ≠ 0) : ∃ a c, e = .returned (.tuple #[.slice a 0 c, .int .i64 E]) ∧ Below w.heap.size w w' := by
  obtain ⟨v, rfl, ho, hb⟩ := h
  rw [if_pos hE] at ho
  obtain ⟨a, c, rfl⟩ := own_nil ho
  exact ⟨a, c, rfl, hb⟩
theorem StE.good {w : World} {L : List Sx} {e : Ending} {w' : World} (h : StE w 0 L e w') (hl : L.length ≤ 1000000000) : ∃ v, e = .returned (.tuple #[v, .int .i64 0]) ∧ Sl Sx.enc 3 w' w'.heap.size v L ∧ Below w.heap.size w w' := by
  obtain ⟨v, rfl, ho, hb⟩ := h
  rw [if_neg (by simp)] at ho
  exact ⟨v, rfl, ho.toSl Sx.enc_len hl, hb⟩
theorem StatePost.good {w : World} {L : List Sx} {e : Ending} {w' : World} (h : StatePost w L e w') (hl : L.length ≤ 1000000000) : ∃ v, e = .returned v ∧ Sl Sx.enc 3 w' w'.heap.size v L ∧ Below w.heap.size w w' := by
  obtain ⟨v, rfl, ho, hb⟩ := h
  exact ⟨v, rfl, ho.toSl Sx.enc_len hl, hb⟩
end Go.Proofs.YtahpdkkpnkhnhaaGreatDoor
/- Walks: Shortest of the reference. -/
namespace Go.Proofs.YtahpdkkpnkhnhaaGreatDoor
open Go Go.Proofs Go.RowKit Go.Shelf
structure BfM (W1 wr : World) (n : Nat) (p : Pl) (bl : List Int) (to fr : Int) (T : List Int) : Prop where
  o : Own encI 1 3 wr W1.heap.size (.slice (some ⟨W1.heap.size, 0, none⟩) n n) T
  b : BfR p bl to fr T
  l : T.length = n
  w : Below W1.heap.size W1 wr
theorem BfM.cell {W1 wr : World} {n : Nat} {p : Pl} {bl : List Int} {to fr : Int} {T : List Int} (h : BfM W1 wr n p bl to fr T) {x : Nat} (hx : x < n) : wr.cell? ⟨W1.heap.size, x, none⟩ = some (.int .i64 (T.getD x 0)) := by
  have h1 := (h.o.atN h.l encI_len x (by rw [h.l]; exact hx)).c1
  rw [Nat.mul_one] at h1
  rw [h1, List.getD_eq_getElem?_getD, List.getElem?_eq_getElem (by rw [h.l]; exact hx)]
  rfl
theorem BfM.drew {W1 wr : World} {n : Nat} {p : Pl} {bl : List Int} {to fr : Int} {T : List Int} (h : BfM W1 wr n p bl to fr T) (q : Nat) : BfM W1 (wr.drewN q) n p bl to fr T := ⟨h.o.drewN q, h.b, h.l, below_drewN h.w q⟩
theorem ShR.bad {p : Pl} {bl : List Int} {fr to : Int} (h : badR p bl fr to = true) : ShR p bl fr to (-1) := ⟨fun _ => rfl, fun h' => by rw [h] at h'; cases h'⟩
end Go.Proofs.YtahpdkkpnkhnhaaGreatDoor
