/- Lemmas on the way to the law PathMenger (part 4): Te Vb Vd -/
import Derived.Test.YtahpdkkpnkhnhaaGreatDoorPathMengerP02
import Derived.Test.YtahpdkkpnkhnhaaGreatDoorPathMengerP03
set_option linter.unusedVariables false
set_option linter.unusedSimpArgs false

/- Plain: lists of paths; what CheckDisjoint says. -/
namespace Go.Proofs.YtahpdkkpnkhnhaaGreatDoor
open Go Go.Proofs Go.RowKit Go.Shelf
structure Pt where
  a : Option Addr
  c : Nat
  l : List Int
def Pt.enc (t : Pt) : List Value := [.slice t.a t.l.length t.c]
theorem Pt.enc_len (t : Pt) : t.enc.length = 1 := rfl
structure PtR (w : World) (B : Nat) (v : Value) (L : List Pt) : Prop where
  sl : Sl Pt.enc 1 w B v L
  rd : ∀ t ∈ L, Sl encI 1 w B (.slice t.a t.l.length t.c) t.l
theorem PtR.later {w w' : World} {v : Value} {L : List Pt} (h : PtR w w.heap.size v L) (hb : Below w.heap.size w w') : PtR w' w'.heap.size v L :=
  ⟨h.sl.later hb, fun t ht => (h.rd t ht).later hb⟩
def disL (p : Pl) (src snk : List Int) : List Pt → Int
  | [] => 0
  | t :: r => if pathE p t.l ≠ 0 then pathE p t.l else if (!src.contains (t.l.getD 0 0) || !snk.contains (t.l.getD (t.l.length - 1) 0)) = true then 1 else disL p src snk r
def disE (p : Pl) (src snk : List Int) (L : List Pt) : Int :=
  if disL p src snk L ≠ 0 then disL p src snk L else if dupB (L.flatMap Pt.l) then 9 else 0
theorem disL_drop (p : Pl) (src snk : List Int) (L : List Pt) (k : Nat) (h : k < L.length) : disL p src snk (L.drop k) = if pathE p L[k].l ≠ 0 then pathE p L[k].l else if (!src.contains (L[k].l.getD 0 0) || !snk.contains (L[k].l.getD (L[k].l.length - 1) 0)) = true then 1 else disL p src snk (L.drop (k + 1)) := by
  rw [List.drop_eq_getElem_cons h]; rfl
end Go.Proofs.YtahpdkkpnkhnhaaGreatDoor
/- Plain: the number of the paths that the greatest flow holds; the cut behind it. -/
namespace Go.Proofs.YtahpdkkpnkhnhaaGreatDoor
open Go Go.Proofs Go.RowKit Go.Shelf
theorem sum01 {α : Type} {f : α → Int} : ∀ {l : List α}, (∀ x ∈ l, 0 ≤ f x ∧ f x ≤ 1) → (l.map f).sum = ((l.filter fun x => decide (f x ≠ 0)).length : Int)
  | [], _ => by simp
  | x :: l, h => by
    have ih := sum01 (f := f) (l := l) fun y hy => h y (by simp [hy])
    have hx := h x (by simp)
    rw [List.map_cons, List.sum_cons, ih]
    by_cases e : f x = 0
    · rw [List.filter_cons_of_neg (by simp [e])]; omega
    · rw [List.filter_cons_of_pos (by simp [e]), List.length_cons]; omega
theorem sum_ones {α : Type} {f : α → Int} : ∀ {l : List α}, (∀ x ∈ l, f x = 1) → (l.map f).sum = (l.length : Int)
  | [], _ => by simp
  | x :: l, h => by
    have ih := sum_ones (f := f) (l := l) fun y hy => h y (by simp [hy])
    rw [List.map_cons, List.sum_cons, ih, h x (by simp), List.length_cons]; omega
namespace FlP
variable {p : Pl} {src snk : List Int} {R : Nat → Nat → Int} {n : Int}
theorem arc_src (h : FlP p src snk R n) {a : Ar} (hk : okArc p src snk a = true) : a.to ∉ src := by
  intro hb
  unfold okArc at hk
  simp only [Bool.and_eq_true, Bool.or_eq_true, contains_iff] at hk
  rcases hk.2 with h2 | h2
  · have := bg_cvR (h.e.k1 _ hb)
    rw [this] at h2; cases h2
  · exact h.e.ne _ h2 hb
theorem src_ph (h : FlP p src snk R n) {x : Int} (hx : x ∈ src) : ph p src snk R (2 * p.ms.length) (2 * x.toNat) = R (2 * x.toNat + 1) (2 * x.toNat) := by
  obtain ⟨h1, h2⟩ := inN_lt (h.e.in1 _ hx)
  have h3 := h.in_sum h1
  rw [sumF_list [2 * p.ms.length] _ (by simp) (by simp) (fun v hv hn => ?_)] at h3
  · rw [← h3]
    simp only [List.map_cons, List.map_nil, List.sum_cons, List.sum_nil]
    rw [if_neg (by omega)]; omega
  · have hne : v ≠ 2 * p.ms.length := by simpa using hn
    by_cases e : v = 2 * x.toNat + 1
    · rw [if_pos e]
    rw [if_neg e]
    have h4 := h.in_nn h1 hv e
    apply Classical.byContradiction
    intro hc
    have hs := h.shape hv (by omega) (show 1 ≤ ph p src snk R v (2 * x.toNat) by omega)
    generalize hj : 2 * x.toNat = j at hs
    cases hs with
    | t hm => omega
    | s hm => exact hne rfl
    | @a a ha hk =>
      obtain ⟨fr, to⟩ := a
      obtain ⟨b1, b2, b3, b4, b5⟩ := h.arc_at ha
      dsimp only at hj
      obtain rfl : to = x := by omega
      exact h.arc_src hk hx
    | m hm => omega
theorem value (h : FlP p src snk R n) : n = (src.map fun x => R (2 * x.toNat + 1) (2 * x.toNat)).sum := by
  have h1 := h.f.nt (2 * p.ms.length) (by omega)
  have h2 : valX (2 * p.ms.length) (2 * p.ms.length + 1) n (2 * p.ms.length) = n := by
    unfold valX
    rw [if_pos rfl, if_neg (by omega)]; omega
  rw [h2] at h1
  have hnd : (src.map fun x => 2 * x.toNat).Nodup := by
    rw [List.nodup_iff_pairwise_ne, List.pairwise_map]
    refine List.Pairwise.imp_of_mem ?_ (List.nodup_iff_pairwise_ne.1 h.e.n1)
    intro a b ha hb hab e
    have k1 := inN_lt (h.e.in1 a ha)
    have k2 := inN_lt (h.e.in1 b hb)
    exact hab (by omega)
  rw [sumF_list (src.map fun x => 2 * x.toNat) _ hnd (fun k hk => by
    obtain ⟨x, hx, rfl⟩ := List.mem_map.1 hk
    have := inN_lt (h.e.in1 x hx)
    omega) (fun v hv hn => by
    show ph p src snk R (2 * p.ms.length) v = 0
    have h3 := h.anti (i := 2 * p.ms.length) (j := v) (by omega) hv
    have h4 : ¬ 1 ≤ ph p src snk R (2 * p.ms.length) v := fun hc => by
      have hs := h.shape (by omega) hv hc
      generalize hi : 2 * p.ms.length = i at hs
      cases hs with
      | @t m hm => omega
      | s hm => exact hn (List.mem_map.2 ⟨_, hm, rfl⟩)
      | a hm hk => omega
      | m hm => omega
    have h5 : ¬ 1 ≤ ph p src snk R v (2 * p.ms.length) := fun hc => by
      have hs := h.shape hv (by omega) hc
      generalize hi : 2 * p.ms.length = i at hs
      cases hs with
      | @t m hm => omega
      | @s m hm => have := (inN_lt (h.e.in1 _ hm)).1; omega
      | @a a ha hk => have := (h.arc_at (a := a.fr) (b := a.to) ha).2.2.1; omega
      | m hm => omega
    omega), List.map_map] at h1
  rw [← h1]
  congr 1
  refine List.map_congr_left fun x hx => ?_
  exact h.src_ph hx
def heads (src : List Int) (R : Nat → Nat → Int) : List Int := src.filter fun x => decide (R (2 * x.toNat + 1) (2 * x.toNat) ≠ 0)
theorem value_heads (h : FlP p src snk R n) : n = (heads src R).length := by
  rw [h.value, sum01 fun x hx => (h.thr (inN_lt (h.e.in1 x hx)).1).2]; rfl
end FlP
structure Chns (p : Pl) (src snk : List Int) (R : Nat → Nat → Int) (L : List Pt) : Prop where
  ch : ∀ t ∈ L, Chn p src snk R t.l ∧ t.l.getD (t.l.length - 1) 0 ∈ snk
  hd : L.map (fun t => t.l.getD 0 0) = FlP.heads src R
theorem disL_none {p : Pl} {src snk : List Int} : ∀ {L : List Pt}, (∀ t ∈ L, pathE p t.l = 0 ∧ t.l.getD 0 0 ∈ src ∧ t.l.getD (t.l.length - 1) 0 ∈ snk) → disL p src snk L = 0
  | [], _ => rfl
  | t :: r, h => by
    obtain ⟨h1, h2, h3⟩ := h t (by simp)
    unfold disL
    rw [if_neg (by rw [h1]; simp), if_neg (by rw [contains_iff.2 h2, contains_iff.2 h3]; simp)]
    exact disL_none fun x hx => h x (by simp [hx])
theorem chn_nodup {p : Pl} {src snk : List Int} {R : Nat → Nat → Int} {n : Int} (hf : FlP p src snk R n) : ∀ {L : List Pt}, (∀ t ∈ L, Chn p src snk R t.l) → (L.map fun t => t.l.getD 0 0).Nodup → (L.flatMap Pt.l).Nodup
  | [], _, _ => by simp
  | t :: r, h, hn => by
    rw [List.map_cons, List.nodup_cons] at hn
    rw [List.flatMap_cons, List.nodup_append]
    refine ⟨(h t (by simp)).nodup hf, chn_nodup hf (fun x hx => h x (by simp [hx])) hn.2, fun a ha b hb e => ?_⟩
    subst e
    obtain ⟨t', ht', hb⟩ := List.mem_flatMap.1 hb
    obtain ⟨i, hi, rfl⟩ := List.mem_iff_getElem.1 ha
    obtain ⟨j, hj, e⟩ := List.mem_iff_getElem.1 hb
    have := ((h t (by simp)).eq hf (h t' (by simp [ht'])) i j hi hj (by rw [List.getD_eq_getElem?_getD, List.getD_eq_getElem?_getD, List.getElem?_eq_getElem hi, List.getElem?_eq_getElem hj, e])).2
    exact hn.1 (List.mem_map.2 ⟨t', ht', this.symm⟩)
theorem Chns.ok {p : Pl} {src snk : List Int} {R : Nat → Nat → Int} {n : Int} (hf : FlP p src snk R n) {L : List Pt} (h : Chns p src snk R L) : disE p src snk L = 0 ∧ (L.length : Int) = n := by
  have h1 : disL p src snk L = 0 := disL_none fun t ht => ⟨(h.ch t ht).1.path hf (h.ch t ht).2, (h.ch t ht).1.hd, (h.ch t ht).2⟩
  have h2 : (L.map fun t => t.l.getD 0 0).Nodup := by
    rw [h.hd]; exact hf.e.n1.sublist List.filter_sublist
  have h3 := chn_nodup hf (fun t ht => (h.ch t ht).1) h2
  refine ⟨?_, ?_⟩
  · unfold disE
    rw [if_neg (by rw [h1]; simp), if_neg]
    rw [(nodup_dup _).2 h3]; simp
  · rw [hf.value_heads, ← h.hd, List.length_map]
structure ClsR (p : Pl) (R : Nat → Nat → Int) (ord : List Nat) : Prop where
  s : 2 * p.ms.length ∈ ord
  t : 2 * p.ms.length + 1 ∉ ord
  cl : ∀ i k, i < 2 * p.ms.length + 2 → k < 2 * p.ms.length + 2 → i ∈ ord → k ∉ ord → R i k = 0
def cutNs (p : Pl) (ord : List Nat) : List Nat := (List.range p.ms.length).filter fun m => decide (2 * m ∈ ord) && !decide (2 * m + 1 ∈ ord)
def cutL (p : Pl) (ord : List Nat) : List Int := (cutNs p ord).map fun m : Nat => (m : Int)
theorem mem_cutNs {p : Pl} {ord : List Nat} {m : Nat} : m ∈ cutNs p ord ↔ m < p.ms.length ∧ 2 * m ∈ ord ∧ 2 * m + 1 ∉ ord := by
  unfold cutNs
  simp [List.mem_filter]
theorem mem_cutL {p : Pl} {ord : List Nat} {m : Nat} : (m : Int) ∈ cutL p ord ↔ m ∈ cutNs p ord := by
  unfold cutL
  rw [List.mem_map]
  constructor
  · rintro ⟨x, hx, e⟩; obtain rfl : x = m := by omega
    exact hx
  · intro h; exact ⟨m, h, rfl⟩
namespace FlP
variable {p : Pl} {src snk : List Int} {R : Nat → Nat → Int} {n : Int} {ord : List Nat}
theorem ph_one (h : FlP p src snk R n) {i k : Nat} (hi : i < 2 * p.ms.length + 2) (hk : k < 2 * p.ms.length + 2) (hc : CapK p src snk i k) : ph p src snk R i k ≤ 1 := by
  cases hc with
  | @t m hm =>
    have h1 := (inN_lt (h.e.in2 m hm)).1
    have h2 := h.out_le h1 (k := 2 * p.ms.length + 1) (by omega) (by omega)
    have h3 := (h.thr h1).2.2
    omega
  | @s m hm =>
    have h1 := (inN_lt (h.e.in1 m hm)).1
    have h2 := h.in_le h1 (k := 2 * p.ms.length) (by omega) (by omega)
    have h3 := (h.thr h1).2.2
    omega
  | @a a ha hok =>
    obtain ⟨b1, b2, b3, b4, b5⟩ := h.arc_at (a := a.fr) (b := a.to) ha
    have h2 := h.in_le b3 (k := 2 * a.fr.toNat + 1) (by omega) (by omega)
    have h3 := (h.thr b3).2.2
    omega
  | @m m hm =>
    have h1 := h.thr hm
    omega
theorem cross_m (h : FlP p src snk R n) (hc : ClsR p R ord) {i k : Nat} (hi : i < 2 * p.ms.length + 2) (hk : k < 2 * p.ms.length + 2) (hio : i ∈ ord) (hko : k ∉ ord) (hs : CapK p src snk i k) : ∃ m, m < p.ms.length ∧ i = 2 * m ∧ k = 2 * m + 1 := by
  apply Classical.byContradiction
  intro hn
  have h1 := capC_two h.pk h.e (by have := h.pk.le; omega) hs fun m hm e => hn ⟨m, hm, e⟩
  have h2 := h.ph_one hi hk hs
  have h3 := hc.cl i k hi hk hio hko
  unfold ph at h2
  omega
theorem cut_zero (h : FlP p src snk R n) (hc : ClsR p R ord) {i k : Nat} (hi : i < 2 * p.ms.length + 2) (hk : k < 2 * p.ms.length + 2) (hio : i ∈ ord) (hko : k ∉ ord) (hn : ∀ m ∈ cutNs p ord, ¬ (i = 2 * m ∧ k = 2 * m + 1)) : capC p src snk i k = 0 := by
  apply Classical.byContradiction
  intro h0
  have h1 := (capC_bd p src snk i k).1
  obtain ⟨m, hm, rfl, rfl⟩ := h.cross_m hc hi hk hio hko (capC_shape h.pk h.e (by have := h.pk.le; omega) (by omega))
  exact hn m (mem_cutNs.2 ⟨hm, hio, hko⟩) ⟨rfl, rfl⟩
theorem value_cut (h : FlP p src snk R n) (hc : ClsR p R ord) : n = (cutL p ord).length := by
  have h1 := h.f.eq_cap (by omega) (fun v => decide (v ∈ ord)) (decide_eq_true hc.s) (decide_eq_false hc.t) (fun i k hi hk h1 h2 => hc.cl i k hi hk (of_decide_eq_true h1) (of_decide_eq_false h2))
  rw [h1]
  unfold capS
  have hnd : ((cutNs p ord).map fun m => 2 * m).Nodup := by
    rw [List.nodup_iff_pairwise_ne, List.pairwise_map]
    refine (List.nodup_iff_pairwise_ne.1 ((List.nodup_range (n := p.ms.length)).sublist List.filter_sublist)).imp ?_
    intro a b hab e
    exact hab (by omega)
  rw [sumF_list ((cutNs p ord).map fun m => 2 * m) _ hnd (fun k hk => by
    obtain ⟨m, hm, rfl⟩ := List.mem_map.1 hk
    have := (mem_cutNs.1 hm).1
    omega) (fun i hi hn => ?_), List.map_map, sum_ones, cutL, List.length_map]
  · intro m hm
    obtain ⟨m1, m2, m3⟩ := mem_cutNs.1 hm
    show sumF _ (fun k => if (decide (2 * m ∈ ord) && !decide (k ∈ ord)) = true then capC p src snk (2 * m) k else 0) = 1
    rw [sumF_list [2 * m + 1] _ (by simp) (by simp; omega) (fun k hk hn => ?_)]
    · simp only [List.map_cons, List.map_nil, List.sum_cons, List.sum_nil]
      rw [if_pos (by simp [m2, m3]), capC_one h.pk h.e m1]; rfl
    · split
      · rename_i hh
        simp only [Bool.and_eq_true, decide_eq_true_eq, Bool.not_eq_true', decide_eq_false_iff_not] at hh
        refine h.cut_zero hc (by omega) hk hh.1 hh.2 fun m' _ e => hn ?_
        simp; omega
      · rfl
  · refine (sumF_congr fun k hk => ?_).trans (sumF_zero _)
    split
    · rename_i hh
      simp only [Bool.and_eq_true, decide_eq_true_eq, Bool.not_eq_true', decide_eq_false_iff_not] at hh
      exact h.cut_zero hc hi hk hh.1 hh.2 fun m hm e => hn (List.mem_map.2 ⟨m, hm, e.1.symm⟩)
    · rfl
theorem reach (h : FlP p src snk R n) (hc : ClsR p R ord) {i k : Nat} (hi : i < 2 * p.ms.length + 2) (hk : k < 2 * p.ms.length + 2) (hio : i ∈ ord) (hs : CapK p src snk i k) (hm : ∀ m : Nat, m < p.ms.length → ¬ (i = 2 * m ∧ k = 2 * m + 1)) : k ∈ ord := by
  apply Classical.byContradiction
  intro hko
  obtain ⟨m, h1, h2⟩ := h.cross_m hc hi hk hio hko hs
  exact hm m h1 h2
theorem through (h : FlP p src snk R n) {m : Int} (hm : inN p.ms.length m = true) (h1 : 2 * m.toNat ∈ ord) (hn : m ∉ cutL p ord) : 2 * m.toNat + 1 ∈ ord := by
  apply Classical.byContradiction
  intro hc
  obtain ⟨k1, k2⟩ := inN_lt hm
  exact hn (by rw [← k2]; exact mem_cutL.2 (mem_cutNs.2 ⟨k1, h1, hc⟩))
theorem way_in (h : FlP p src snk R n) (hc : ClsR p R ord) {x : Int} (hw : VWay p (cutL p ord) snk src x) : inN p.ms.length x = true ∧ 2 * x.toNat + 1 ∈ ord := by
  induction hw with
  | @start m hm hn =>
    have h1 := h.e.in1 m hm
    refine ⟨h1, h.through h1 (h.reach hc (by omega) (by have := (inN_lt h1).1; omega) hc.s (.s hm) fun k hk e => ?_) hn⟩
    omega
  | @step m x _ h2 h3 h4 h5 h6 ih =>
    have h1 : inN p.ms.length x = true := (h.pk.ins _ h4).2.1
    refine ⟨h1, h.through h1 (h.reach hc (by have := (inN_lt ih.1).1; omega) (by have := (inN_lt h1).1; omega) ih.2 (.a h4 ?_) fun k hk e => ?_) h6⟩
    · unfold okArc
      simp only [Bool.and_eq_true, Bool.or_eq_true, contains_iff]
      exact ⟨h3, h5⟩
    · omega
theorem cut_ok (h : FlP p src snk R n) (hc : ClsR p R ord) : cutB p src snk (cutL p ord) = false := by
  cases hq : cutB p src snk (cutL p ord) with
  | false => rfl
  | true =>
    obtain ⟨t, ht, hw⟩ := (cutB_iff h.pk h.e.in1).1 hq
    obtain ⟨h1, h2⟩ := h.way_in hc hw
    exact absurd (h.reach hc (by have := (inN_lt h1).1; omega) (by omega) h2 (.t ht) fun m hm e => by omega) hc.t
end FlP
theorem cutL_in {p : Pl} {ord : List Nat} : ∀ x ∈ cutL p ord, inN p.ms.length x = true := by
  intro x hx
  obtain ⟨m, hm, rfl⟩ := List.mem_map.1 hx
  have := (mem_cutNs.1 hm).1
  unfold inN
  simp only [Bool.and_eq_true, decide_eq_true_eq]
  omega
theorem MostR.flp {p : Pl} {src snk : List Int} {rm : List Int} {n : Int} (hp : OkP p) (he : OkE p src snk) (h : MostR p src snk rm n) : FlP p src snk (matR rm) n := ⟨hp, he, h.fl⟩
theorem cls_of {p : Pl} {src snk : List Int} {rm : List Int} {n : Int} {bf : List Int} {ord : List Nat} (hf : RFlow (2 * p.ms.length + 2) (capC p src snk) (matR rm) (valX (2 * p.ms.length) (2 * p.ms.length + 1) n)) (hs : SpR (2 * p.ms.length + 2) (matR rm) (2 * p.ms.length) bf ord) (hd : SpDone (2 * p.ms.length + 2) (matR rm) ord ord.length) (ht : (2 * p.ms.length + 1) ∉ ord) : ClsR p (matR rm) ord :=
  ⟨hs.hd, ht, fun i k hi hk hio hko => by
    have h1 := hf.nn i k hi hk
    apply Classical.byContradiction
    intro h0
    obtain ⟨j, hj, rfl⟩ := List.mem_iff_getElem.1 hio
    exact hko (hd j hj hj k hk (by omega))⟩
end Go.Proofs.YtahpdkkpnkhnhaaGreatDoor
/- Walks: Cut. -/
namespace Go.Proofs.YtahpdkkpnkhnhaaGreatDoor
open Go Go.Proofs Go.RowKit Go.Shelf
def MaxF (p : Pl) (src snk : List Int) (R : Nat → Nat → Int) (n : Int) (ord : List Nat) : Prop := FlP p src snk R n ∧ ClsR p R ord
theorem MaxF.unique {p : Pl} {src snk : List Int} {R R' : Nat → Nat → Int} {n n' : Int} {ord ord' : List Nat} (h : MaxF p src snk R n ord) (h' : MaxF p src snk R' n' ord') : n = n' := by
  have key : ∀ {R R' : Nat → Nat → Int} {n n' : Int} {ord ord' : List Nat}, MaxF p src snk R n ord → MaxF p src snk R' n' ord' → n ≤ n' := by
    intro R R' n n' ord ord' h h'
    rw [h'.1.f.eq_cap (by omega) (fun v => decide (v ∈ ord')) (decide_eq_true h'.2.s) (decide_eq_false h'.2.t) (fun i k hi hk h1 h2 => h'.2.cl i k hi hk (of_decide_eq_true h1) (of_decide_eq_false h2))]
    exact h.1.f.le_cap (by omega) _ (decide_eq_true h'.2.s) (decide_eq_false h'.2.t)
  have h1 := key h h'
  have h2 := key h' h
  omega
theorem sp_within {N : Nat} {R : Nat → Nat → Int} {src : Nat} {bf : List Int} {ord S : List Nat} (h : SpR N R src bf ord) (hs : src ∈ S) (hc : ∀ i k, i < N → k < N → i ∈ S → k ∉ S → R i k = 0) : ∀ (n x : Nat), x ∈ ord → ord.idxOf x < n → x ∈ S
  | 0, _, _, hn => by omega
  | n + 1, x, hx, hn => by
    by_cases e : x = src
    · subst e; exact hs
    obtain ⟨k, h1, h2, h3, h4⟩ := h.tree x hx e
    have ih := sp_within h hs hc n k h2 (by omega)
    apply Classical.byContradiction
    intro hno
    have := hc k x (h.lt k h2) (h.lt x hx) ih hno
    omega
theorem MostR.max {p : Pl} {src snk : List Int} {rm : List Int} {n : Int} (hp : OkP p) (he : OkE p src snk) (h : MostR p src snk rm n) : ∃ ord, MaxF p src snk (matR rm) n ord := by
  obtain ⟨bf, ord, h1, h2, h3⟩ := h.cl
  exact ⟨ord, ⟨hp, he, h.fl⟩, cls_of h.fl h1 h2 h3⟩
theorem MostR.max2 {p : Pl} {src snk : List Int} {rm : List Int} {n : Int} (hp : OkP p) (he : OkE p src snk) (h : MostR p src snk rm n) {bf : List Int} {ord : List Nat} (h1 : SpR (2 * p.ms.length + 2) (matR rm) (2 * p.ms.length) bf ord) (h2 : SpDone (2 * p.ms.length + 2) (matR rm) ord ord.length) : MaxF p src snk (matR rm) n ord := by
  obtain ⟨S, hS⟩ := h.max hp he
  refine ⟨hS.1, cls_of h.fl h1 h2 fun ht => ?_⟩
  exact hS.2.t (sp_within h1 hS.2.s hS.2.cl _ _ ht (Nat.lt_succ_self _))
def cutTo (ord : List Nat) (k : Nat) : List Int := ((List.range k).filter fun m => decide (2 * m ∈ ord) && !decide (2 * m + 1 ∈ ord)).map fun m : Nat => (m : Int)
theorem cutTo_all (p : Pl) (ord : List Nat) : cutTo ord p.ms.length = cutL p ord := rfl
theorem cutTo_succ (ord : List Nat) (k : Nat) : cutTo ord (k + 1) = if (decide (2 * k ∈ ord) && !decide (2 * k + 1 ∈ ord)) = true then cutTo ord k ++ [(k : Int)] else cutTo ord k := by
  unfold cutTo
  rw [List.range_succ, List.filter_append, List.map_append, List.filter_cons, List.filter_nil]
  split
  · rfl
  · simp
theorem cutTo_len (ord : List Nat) (k : Nat) : (cutTo ord k).length ≤ k := by
  unfold cutTo
  rw [List.length_map]
  exact Nat.le_trans (List.length_filter_le _ _) (by simp)
def CutP (w : World) (p : Pl) (src snk : List Int) (e : Ending) (w' : World) : Prop :=
  ∃ v l, e = .returned (.tuple #[v, .int .i64 (bothE p src snk)]) ∧ Sl encI 1 w' w'.heap.size v l ∧ (bothE p src snk ≠ 0 → l = []) ∧ (bothE p src snk = 0 → ∃ R n ord, MaxF p src snk R n ord ∧ l = cutL p ord) ∧ Below w.heap.size w w'
set_option maxRecDepth 100000 in
set_option maxHeartbeats 2000000 in
theorem cut62 (w : World) (v1 v2 s t : Value) (p : Pl) (src snk : List Int) (hwd : WdR w) (hv : PlR w w.heap.size v1 v2 p) (hs : Sl encI 1 w w.heap.size s src) (ht : Sl encI 1 w w.heap.size t snk) :
    Calls Tryz.prog 62 #[.agg #[v1, v2], s, t] w (CutP w p src snk) := by
  have HP := Lib.hid (fun (w1 : World) (hb : Below w.heap.size w w1) => checkBoth118 w1 _ _ s t p src snk (hwd.later hb) (hv.later hb) (hs.later hb) (ht.later hb))
  have HM := Lib.hid (fun (w1 : World) (hb : Below w.heap.size w w1) (h : bothE p src snk = 0) => most119 w1 _ _ s t p src snk (hwd.later hb) (hv.later hb) (hs.later hb) (ht.later hb) (bothE_ok h).1 (bothE_ok h).2.in1 (bothE_ok h).2.in2)
  have HOK := Lib.hid (fun h : bothE p src snk = 0 => bothE_ok h)
  obtain ⟨a1, n1, a2, n2, rfl, rfl⟩ := hv.agg
  obtain ⟨sa, cs, rfl, _, _⟩ := id hs
  obtain ⟨ta, ct, rfl, _, _⟩ := id ht
  clear hwd hv hs ht
  have HB := Lib.hid ((Below.refl w.heap.size w).alloc (Nat.le_refl _) (.cells #[.slice a1 p.ms.length n1, .slice a2 p.arcs.length n2] 25))
  have HX := Lib.hid (Box.new w #[.slice a1 p.ms.length n1, .slice a2 p.arcs.length n2] 25)
  obtain ⟨Q, hQ⟩ : ∃ Q, CutP w p src snk = Q := ⟨_, rfl⟩
  rw [hQ]
  unfold CutP at hQ
  unfold MostPost at HM
  obtain ⟨c, hc⟩ : ∃ c, bothE p src snk = c := ⟨_, rfl⟩
  rw [hc] at HP hQ HM HOK
  have HQ : Hid (∀ v l w', Sl encI 1 w' w'.heap.size v l → (c ≠ 0 → l = []) → (c = 0 → ∃ R n ord, MaxF p src snk R n ord ∧ l = cutL p ord) → Below w.heap.size w w' → Q (.returned (.tuple #[v, .int .i64 c])) w') := Lib.hid (fun v l w' h1 h2 h3 h4 => by rw [← hQ]; exact ⟨v, l, rfl, h1, h2, h3, h4⟩)
  obtain ⟨n, hn⟩ : ∃ n, p.ms.length = n := ⟨_, rfl⟩
  obtain ⟨m, hm⟩ : ∃ n, p.arcs.length = n := ⟨_, rfl⟩
  obtain ⟨ns, hns⟩ : ∃ n, src.length = n := ⟨_, rfl⟩
  obtain ⟨nt, hnt⟩ : ∃ n, snk.length = n := ⟨_, rfl⟩
  have HN := Lib.hid hn
  rw [hn, hm, hns, hnt] at HP
  rw [hn, hm] at HB HX
  rw [hn, hm, hns, hnt] at HM
  rw [hn, hm, hns, hnt]
  clear hn hm hns hnt hc hQ
  go_enter Tryz.func62, Tryz.ntmps62
  by_cases h0 : c = 0
  rotate_left
  · have k0 : (c != 0) = true := bne_iff_ne.2 h0
    have H0 := Lib.hid h0
    clear HM HOK h0
    go_wp2_with (go_at_call 118; refine (HP.out _ HB.out).mono ?_; rintro e w2 ⟨rfl, hb2⟩; have HB2 := Lib.hid (HB.out.trans (hb2.mono HB.out.size)); have HX2 := Lib.hid (HX.out.later hb2); obtain ⟨x0, x1, xf, xz⟩ := HX2.out.v2; clear hb2)
    exact HQ.out _ _ _ (Sl.nil _ _ _ _ _ _) (fun _ => rfl) (fun h => absurd h H0.out) HB2.out
  subst h0
  obtain ⟨hok, hoe⟩ := HOK.out rfl
  have hn64 : n ≤ 64 := by rw [← HN.out]; exact hok.le
  have HOP := Lib.hid hok
  have HOE := Lib.hid hoe
  have HM2 := Lib.hid (fun w1 hb => HM.out w1 hb rfl)
  clear HM HOK hok hoe
  have HT : Hid (Tryz.prog.underlying 26 = some (.slice 3)) := Lib.hid Tryz.underlying26
  have HI := Lib.hid infoI
  go_wp2_with (first | (go_at_call 118; refine (HP.out _ HB.out).mono ?_; rintro e w2 ⟨rfl, hb2⟩; have HB2 := Lib.hid (HB.out.trans (hb2.mono HB.out.size)); have HX2 := Lib.hid (HX.out.later hb2); obtain ⟨x0, x1, xf, xz⟩ := HX2.out.v2; clear hb2) | (go_at_call 119; refine (HM2.out _ HB2.out).mono ?_; rintro e w3 ⟨fb, rm, nn, rfl, hf, hl, hr, hge, hb3⟩; have HR := Lib.hid hr; have HB3 := Lib.hid (HB2.out.trans (hb3.mono HB2.out.size)); have HX3 := Lib.hid (HX2.out.later hb3); have HSP := Lib.hid (spread122 w3 fb (2 * n + 2) rm hl (by omega) (by omega) hf); clear hf hl hr hge hb3 x0 x1 xf xz) | (go_at_call 122; refine (HSP.out).mono ?_; rintro e w4 ⟨g, cg, bf, ord, rfl, ho, hsp, hdn, hb4⟩; have HB4 := Lib.hid (HB3.out.trans (hb4.mono HB3.out.size)); have HX4 := Lib.hid (HX3.out.later hb4); have HO := Lib.hid ho; have HS := Lib.hid hsp; have HD := Lib.hid hdn; obtain ⟨x0, x1, xf, xz⟩ := HX4.out.v2; clear ho hsp hdn hb4))
  have HMX : Hid (∃ R k, MaxF p src snk R k ord) := Lib.hid ⟨_, _, HR.out.max2 HOP.out HOE.out (bf := bf) (by have h := HS.out; rw [← HN.out] at h; exact h) (by have h := HD.out; rw [← HN.out] at h; exact h)⟩
  have hgz := HO.out.ltN.2
  clear HM2 HR HSP HD x0 x1 xf xz HX2 HX3 HB2 HB3
  go_loopw [33, 12] (fun i v wr => ∃ k : Nat, k ≤ n ∧ i = .int .i64 k ∧ Own encI 1 3 wr w4.heap.size v (cutTo ord k) ∧ Below w4.heap.size w4 wr) (fun i _ _ => n - (intOf i).toNat)
  case atStart => exact ⟨0, by omega, rfl, Own.nil _ _ _ _ _, Below.refl _ _⟩
  case round =>
    obtain ⟨k, hk, rfl, hown, hbe⟩ := hrel
    have HOV := Lib.hid hown
    have HBE := Lib.hid hbe
    have hln := cutTo_len ord k
    clear hown hbe
    by_cases hlt : k < n
    rotate_left
    · obtain rfl : n = k := by omega
      have HF := Lib.hid (HOV.out.toSl encI_len (by omega))
      obtain ⟨R, kk, hmx⟩ := HMX.out
      have HMY := Lib.hid hmx
      clear hmx
      go_wp2_with fail
      exact HQ.out _ _ _ HF.out (fun h => absurd rfl h) (fun _ => ⟨R, kk, ord, HMY.out, by rw [← cutTo_all, HN.out]⟩) (HB4.out.trans (HBE.out.mono HB4.out.size))
    have hbl := HS.out.len
    have o0 := ((HO.out.atN hbl encI_len (2 * k) (by omega)).below HBE.out hgz).c1
    have o1 := ((HO.out.atN hbl encI_len (2 * k + 1) (by omega)).below HBE.out hgz).c1
    rw [Nat.mul_one, getD_m1] at o0 o1
    have hgz2 : g < wr.heap.size := Nat.lt_of_lt_of_le hgz HBE.out.size
    have m0 := HS.out.mem (2 * k) (by omega)
    have m1 := HS.out.mem (2 * k + 1) (by omega)
    have hcs := cutTo_succ ord k
    obtain ⟨y0, hy0⟩ : ∃ y, bf.getD (2 * k) (-1) = y := ⟨_, rfl⟩
    obtain ⟨y1, hy1⟩ : ∃ y, bf.getD (2 * k + 1) (-1) = y := ⟨_, rfl⟩
    rw [hy0] at o0 m0
    rw [hy1] at o1 m1
    clear hy0 hy1 hbl
    obtain ⟨j0, hj0⟩ : ∃ j, 2 * k = j := ⟨_, rfl⟩
    obtain ⟨j1, hj1⟩ : ∃ j, 2 * k + 1 = j := ⟨_, rfl⟩
    have K21 := Lib.hid (entry121 (k : Int) wr (by omega))
    have K20 := Lib.hid (exit120 (k : Int) wr (by omega))
    rw [show (2 * (k : Int)) = (j0 : Int) by omega] at K21
    rw [show (2 * (k : Int) + 1) = (j1 : Int) by omega] at K20
    rw [hj1] at hcs o1 m1
    rw [hj0] at hcs o0 m0
    have hjn0 : (j0 : Int) < ((2 * n + 2 : Nat) : Int) := by omega
    have hjn1 : (j1 : Int) < ((2 * n + 2 : Nat) : Int) := by omega
    have hjm0 : j0 < 2 * n + 2 := by omega
    have hjm1 : j1 < 2 * n + 2 := by omega
    obtain ⟨N, hN⟩ : ∃ N, 2 * n + 2 = N := ⟨_, rfl⟩
    rw [hN] at hjn0 hjn1 hjm0 hjm1 ⊢
    have HLK : Hid ((cutTo ord k).length ≤ 1000000) := Lib.hid (by omega)
    clear hj0 hj1 hN hln
    by_cases h0 : 0 ≤ y0
    rotate_left
    · have d0 : decide ((0 : Int) ≤ y0) = false := decide_eq_false h0
      have HV := Lib.hid (show cutTo ord (k + 1) = cutTo ord k by rw [hcs, if_neg]; rw [decide_eq_false (fun hh => h0 (m0.2 hh))]; simp)
      clear m0 m1 hcs h0
      go_wp2_with (first | (go_at_call 121; refine (K21.out).mono ?_; rintro e wx ⟨rfl, rfl⟩) | (go_at_call 120; refine (K20.out).mono ?_; rintro e wx ⟨rfl, rfl⟩))
      go_roundw
      case rel => exact ⟨k + 1, by omega, by go_num, by rw [HV.out]; exact HOV.out, HBE.out⟩
      case measure => simp [intOf]; omega
    have d0 : decide ((0 : Int) ≤ y0) = true := decide_eq_true h0
    by_cases h1 : y1 < 0
    rotate_left
    · have d1 : decide (y1 < 0) = false := decide_eq_false h1
      have HV := Lib.hid (show cutTo ord (k + 1) = cutTo ord k by rw [hcs, if_neg]; rw [decide_eq_true (m1.1 (by omega))]; simp)
      clear m0 m1 hcs h0 h1
      go_wp2_with (first | (go_at_call 121; refine (K21.out).mono ?_; rintro e wx ⟨rfl, rfl⟩) | (go_at_call 120; refine (K20.out).mono ?_; rintro e wx ⟨rfl, rfl⟩))
      go_roundw
      case rel => exact ⟨k + 1, by omega, by go_num, by rw [HV.out]; exact HOV.out, HBE.out⟩
      case measure => simp [intOf]; omega
    have d1 : decide (y1 < 0) = true := decide_eq_true h1
    have HV := Lib.hid (show cutTo ord (k + 1) = cutTo ord k ++ [(k : Int)] by rw [hcs, if_pos]; rw [decide_eq_true (m0.1 h0), decide_eq_false (fun hh => by have := m1.2 hh; omega)]; rfl)
    clear m0 m1 hcs h0 h1
    go_wp2_with (first | (go_at_call 121; refine (K21.out).mono ?_; rintro e wx ⟨rfl, rfl⟩) | (go_at_call 120; refine (K20.out).mono ?_; rintro e wx ⟨rfl, rfl⟩) | (at_builtin; refine wpList_push encI 1 8 26 3 _ HT.out HI.out rfl (by decide) (by decide) encI_len encI_one _ (k : Int) w4.heap.size _ _ rfl _ HOV.out HBE.out.size HLK.out rfl _ _ rfl rfl rfl ?_; intro v' w' hown' hg'; obtain ⟨a', cap', rfl⟩ := hown'.shape; rw [List.length_append, List.length_singleton] at hown'; have HOW := Lib.hid hown'; have HGR := Lib.hid (grown_below HBE.out hg' HBE.out.size (HOV.out.lt') (Nat.le_refl _)); clear hown' hg'))
    go_roundw
    case rel => exact ⟨k + 1, by omega, by go_num, by rw [HV.out]; exact HOW.out, HGR.out⟩
    case measure => simp [intOf]; omega
end Go.Proofs.YtahpdkkpnkhnhaaGreatDoor
