/- Lemmas on the way to the law TopOneGrain (part 22): PNa PNb PNc PNd -/
import Derived.Test.YtpafjhjpchdcdaaGreatDoorTopOneGrainP21
set_option linter.unusedVariables false
set_option linter.unusedSimpArgs false

/- Plain: what the commands make of a valid state. -/
namespace Go.Proofs.YtpafjhjpchdcdaaGreatDoor
open Go Go.Proofs Go.RowKit Go.Shelf
abbrev sAt (st : List Sx) (x : Nat) : Sx := st.getD x s0
structure StV (p : Pl) (st : List Sx) : Prop where
  len : st.length = p.ms.length
  run : ∀ x : Nat, x < p.ms.length → (sAt st x).runs = true → cvB (kdA p x) = true
  fd : ∀ x : Nat, x < p.ms.length → (sAt st x).feeds = -1 ∨ (⟨x, (sAt st x).feeds⟩ : Ar) ∈ p.arcs
  gr : ∀ x : Nat, x < p.ms.length → (sAt st x).grain.toList.isEmpty = false → isName (sAt st x).grain = true ∧ kpB (kdA p x) = true
  nr : ∀ x : Nat, x < p.ms.length → (sAt st x).feeds < 0 → (sAt st x).runs = false
  uq : ∀ x y : Nat, x < p.ms.length → y < p.ms.length → 0 ≤ (sAt st x).feeds → (sAt st x).feeds = (sAt st y).feeds → x = y
  fl : ∀ x y : Nat, x < p.ms.length → (sAt st x).feeds = (y : Int) → (sAt st x).runs = true → cvB (kdA p y) = true → (sAt st y).runs = true
  g1 : ∀ x y : Nat, x < p.ms.length → (sAt st x).feeds = (y : Int) → kpB (kdA p x) = true → (sAt st x).grain.toList.isEmpty = false
  g2 : ∀ x y : Nat, x < p.ms.length → (sAt st x).feeds = (y : Int) → kpB (kdA p y) = true → (sAt st y).grain.toList.isEmpty = false
  g3 : ∀ x y : Nat, x < p.ms.length → (sAt st x).feeds = (y : Int) → kpB (kdA p x) = true → kpB (kdA p y) = true → (sAt st x).grain.toList = (sAt st y).grain.toList
theorem fedB_iff {st : List Sx} {i : Nat} (hi : i ≤ st.length) (x : Int) : fedB st i x = true ↔ ∃ k, k < i ∧ (sAt st k).feeds = x := by
  unfold fedB
  rw [List.any_eq_true]
  constructor
  · rintro ⟨s, hs, he⟩
    obtain ⟨k, hk, rfl⟩ := List.mem_iff_getElem.1 hs
    rw [List.length_take] at hk
    refine ⟨k, by omega, ?_⟩
    rw [List.getElem_take] at he
    rw [sAt, stGet (by omega)]
    exact eq_of_beq he
  · rintro ⟨k, hk, he⟩
    refine ⟨st[k]'(by omega), ?_, ?_⟩
    · rw [List.mem_iff_getElem]
      exact ⟨k, by rw [List.length_take]; omega, List.getElem_take⟩
    · rw [sAt, stGet (by omega)] at he
      exact beq_iff_eq.2 he
theorem stE_zero {p : Pl} {m : Nat} {s : Sx} (h1 : s.runs = true → cvB (kdA p m) = true) (h2 : s.feeds = -1 ∨ (⟨m, s.feeds⟩ : Ar) ∈ p.arcs) (h3 : s.grain.toList.isEmpty = false → isName s.grain = true ∧ kpB (kdA p m) = true) : stE p m s = 0 := by
  unfold stE
  rw [if_neg, if_neg, if_neg, if_neg]
  · rintro ⟨a, b⟩; rw [(h3 a).2] at b; cases b
  · rintro ⟨a, b⟩; rw [(h3 a).1] at b; cases b
  · rintro ⟨a, b⟩
    rcases h2 with h | h
    · exact a h
    · exact absurd h (of_decide_eq_false b)
  · intro h
    simp only [Bool.and_eq_true, Bool.not_eq_true'] at h
    rw [h1 h.1] at h; cases h.2
theorem ckStL_zero {p : Pl} : ∀ {r : List Sx} {k : Nat}, (∀ i (h : i < r.length), stE p (k + i) r[i] = 0) → ckStL p k r = 0
  | [], _, _ => rfl
  | a :: r, k, h => by
    unfold ckStL
    have h0 := h 0 (by simp)
    simp only [Nat.add_zero, List.getElem_cons_zero] at h0
    rw [if_neg (by rw [h0]; simp)]
    refine ckStL_zero fun i hi => ?_
    have := h (i + 1) (by simpa using hi)
    simpa [Nat.add_assoc, Nat.add_comm 1 i] using this
theorem vdK_ok {p : Pl} {st : List Sx} {i : Nat} (hi : i ≤ st.length) (h : vdK p st i = true) :
    ((sAt st i).feeds < 0 → (sAt st i).runs = false) ∧ (0 ≤ (sAt st i).feeds → (∀ k, k < i → (sAt st k).feeds ≠ (sAt st i).feeds)) ∧
      ∀ y : Nat, (sAt st i).feeds = (y : Int) → ((sAt st i).runs = true → cvB (kdA p y) = true → (sAt st y).runs = true) ∧ (kpB (kdA p i) = true → (sAt st i).grain.toList.isEmpty = false) ∧ (kpB (kdA p y) = true → (sAt st y).grain.toList.isEmpty = false) ∧
        (kpB (kdA p i) = true → kpB (kdA p y) = true → (sAt st i).grain.toList = (sAt st y).grain.toList) := by
  unfold vdK at h
  change (if (sAt st i).feeds < 0 then !(sAt st i).runs else
  !(fedB st i (sAt st i).feeds || ((sAt st i).runs && cvB (kdA p (sAt st i).feeds) && !(sAt st (sAt st i).feeds.toNat).runs)) &&
  !((kpB (kdA p i) && (sAt st i).grain.toList.isEmpty) || (kpB (kdA p (sAt st i).feeds) && (sAt st (sAt st i).feeds.toNat).grain.toList.isEmpty) || (kpB (kdA p i) && kpB (kdA p (sAt st i).feeds) && !((sAt st i).grain.toList == (sAt st (sAt st i).feeds.toNat).grain.toList)))) = true at h
  by_cases hf : (sAt st i).feeds < 0
  · rw [if_pos hf] at h
    refine ⟨fun _ => by simpa using h, fun h0 => by omega, fun y hy => by omega⟩
  · rw [if_neg hf] at h
    simp only [Bool.and_eq_true, Bool.not_eq_true', Bool.or_eq_false_iff] at h
    obtain ⟨⟨h1, h2⟩, ⟨h3, h4⟩, h5⟩ := h
    refine ⟨fun h0 => absurd h0 hf, fun _ k hk e => ?_, fun y hy => ?_⟩
    · have := (fedB_iff hi (sAt st i).feeds).2 ⟨k, hk, e⟩
      rw [h1] at this; cases this
    · rw [hy, Int.toNat_natCast] at h2 h4 h5
      refine ⟨fun a b => ?_, fun a => ?_, fun a => ?_, fun a b => ?_⟩
      · rw [a, b] at h2; simpa using h2
      · rw [a] at h3; simpa using h3
      · rw [a] at h4; simpa using h4
      · rw [a, b] at h5; simpa using h5
theorem vdK_mk {p : Pl} {st : List Sx} {i : Nat} (hi : i ≤ st.length) (h1 : (sAt st i).feeds < 0 → (sAt st i).runs = false) (h2 : 0 ≤ (sAt st i).feeds → (∀ k, k < i → (sAt st k).feeds ≠ (sAt st i).feeds))
    (h3 : ∀ y : Nat, (sAt st i).feeds = (y : Int) → ((sAt st i).runs = true → cvB (kdA p y) = true → (sAt st y).runs = true) ∧ (kpB (kdA p i) = true → (sAt st i).grain.toList.isEmpty = false) ∧ (kpB (kdA p y) = true → (sAt st y).grain.toList.isEmpty = false) ∧
        (kpB (kdA p i) = true → kpB (kdA p y) = true → (sAt st i).grain.toList = (sAt st y).grain.toList)) : vdK p st i = true := by
  unfold vdK
  change (if (sAt st i).feeds < 0 then !(sAt st i).runs else
  !(fedB st i (sAt st i).feeds || ((sAt st i).runs && cvB (kdA p (sAt st i).feeds) && !(sAt st (sAt st i).feeds.toNat).runs)) &&
  !((kpB (kdA p i) && (sAt st i).grain.toList.isEmpty) || (kpB (kdA p (sAt st i).feeds) && (sAt st (sAt st i).feeds.toNat).grain.toList.isEmpty) || (kpB (kdA p i) && kpB (kdA p (sAt st i).feeds) && !((sAt st i).grain.toList == (sAt st (sAt st i).feeds.toNat).grain.toList)))) = true
  by_cases hf : (sAt st i).feeds < 0
  · rw [if_pos hf, h1 hf]; rfl
  · rw [if_neg hf]
    obtain ⟨y, hy⟩ : ∃ y : Nat, (sAt st i).feeds = (y : Int) := ⟨(sAt st i).feeds.toNat, by omega⟩
    obtain ⟨a, b, c, d⟩ := h3 y hy
    have hfd : fedB st i (sAt st i).feeds = false := by
      cases hq : fedB st i (sAt st i).feeds with
      | false => rfl
      | true =>
        obtain ⟨k, hk, e⟩ := (fedB_iff hi _).1 hq
        exact absurd e (h2 (by omega) k hk)
    rw [hfd, hy, Int.toNat_natCast]
    simp only [Bool.and_eq_true, Bool.not_eq_true', Bool.or_eq_false_iff]
    refine ⟨⟨trivial, ?_⟩, ⟨?_, ?_⟩, ?_⟩
    · cases q1 : (sAt st i).runs with
      | false => rfl
      | true =>
        cases q2 : cvB (kdA p y) with
        | false => rfl
        | true => rw [a q1 q2]; rfl
    · cases q1 : kpB (kdA p i) with
      | false => rfl
      | true => rw [b q1]; rfl
    · cases q1 : kpB (kdA p y) with
      | false => rfl
      | true => rw [c q1]; rfl
    · cases q1 : kpB (kdA p i) with
      | false => rfl
      | true =>
        cases q2 : kpB (kdA p y) with
        | false => rfl
        | true => rw [d q1 q2]; simp
theorem StV.of {p : Pl} {st : List Sx} (h : ckState p st = 0) : StV p st := by
  obtain ⟨hok, hlen, hst, hvd⟩ := ckState_ok h
  rw [validB_iff] at hvd
  have hs : ∀ x : Nat, x < p.ms.length → stE p x (sAt st x) = 0 := fun x hx => by
    have := ckStL_ok hst x (by omega)
    rw [Nat.zero_add] at this
    rw [sAt, stGet (by omega)]; exact this
  have hv := fun (x : Nat) (hx : x < p.ms.length) => vdK_ok (p := p) (st := st) (i := x) (by omega) (hvd x (by omega))
  have hin : ∀ x y : Nat, x < p.ms.length → (sAt st x).feeds = (y : Int) → y < p.ms.length := fun x y hx hy => by
    rcases (stE_ok (hs x hx)).2.1 with h1 | h1
    · omega
    · obtain ⟨k, hk, hkn⟩ := inN_nat (hok.ins _ h1).2.1
      dsimp only at hk; omega
  refine ⟨hlen, fun x hx => (stE_ok (hs x hx)).1, fun x hx => (stE_ok (hs x hx)).2.1, fun x hx => (stE_ok (hs x hx)).2.2, fun x hx => (hv x hx).1, fun x y hx hy h0 he => ?_, fun x y hx hf => ((hv x hx).2.2 y hf).1, fun x y hx hf => ((hv x hx).2.2 y hf).2.1,
    fun x y hx hf => ((hv x hx).2.2 y hf).2.2.1, fun x y hx hf => ((hv x hx).2.2 y hf).2.2.2⟩
  rcases Nat.lt_trichotomy x y with h1 | h1 | h1
  · exact absurd he ((hv y hy).2.1 (by omega) x h1)
  · exact h1
  · exact absurd he.symm ((hv x hx).2.1 h0 y h1)
theorem StV.ck {p : Pl} {st : List Sx} (hck : ckPlant p = 0) (h : StV p st) : ckState p st = 0 := by
  unfold ckState
  have h1 : ckStL p 0 st = 0 := ckStL_zero fun i hi => by
    have hx : i < p.ms.length := by have := h.len; omega
    rw [Nat.zero_add]
    have e : st[i] = sAt st i := (stGet hi).symm
    rw [e]
    exact stE_zero (h.run i hx) (h.fd i hx) (h.gr i hx)
  have h2 : validB p st = true := (validB_iff p st).2 fun i hi => by
    have hx : i < p.ms.length := by have := h.len; omega
    exact vdK_mk (by omega) (h.nr i hx) (fun h0 k hk e => absurd (h.uq k i (by omega) hx (by omega) e) (by omega)) fun y hy => ⟨h.fl i y hx hy, h.g1 i y hx hy, h.g2 i y hx hy, h.g3 i y hx hy⟩
  rw [if_neg (by rw [hck]; simp), if_neg (by rw [h.len]; simp), if_neg (by rw [h1]; simp), if_pos h2]
def alongTo (F : Nat → Sx → Sx) (l : List Int) (st : List Sx) : Nat → List Sx
  | 0 => st
  | k + 1 => (alongTo F l st k).set (l.getD k 0).toNat (F k ((alongTo F l st k).getD (l.getD k 0).toNat s0))
theorem along_len (F : Nat → Sx → Sx) (l : List Int) (st : List Sx) (k : Nat) : (alongTo F l st k).length = st.length := by
  induction k with
  | zero => rfl
  | succ k ih => rw [alongTo, List.length_set, ih]
theorem start_along (p : Pl) (l : List Int) (g : ByteArray) (st : List Sx) : ∀ k, startTo p l g st k = alongTo (startV p l g) l st k
  | 0 => rfl
  | k + 1 => by rw [startTo, alongTo, start_along p l g st k]
theorem stop_along (p : Pl) (l : List Int) (cl : Bool) (st : List Sx) : ∀ k, stopTo p l cl st k = alongTo (stopV p l cl) l st k
  | 0 => rfl
  | k + 1 => by rw [stopTo, alongTo, stop_along p l cl st k]
theorem resume_along (p : Pl) (l : List Int) (st : List Sx) : ∀ k, resumeTo p l st k = alongTo (resumeV p l) l st k
  | 0 => rfl
  | k + 1 => by rw [resumeTo, alongTo, resume_along p l st k]
theorem along_off (F : Nat → Sx → Sx) (l : List Int) (st : List Sx) (x : Nat) : ∀ k, (∀ j, j < k → (l.getD j 0).toNat ≠ x) → sAt (alongTo F l st k) x = sAt st x
  | 0, _ => rfl
  | k + 1, h => by
    show (alongTo F l st (k + 1)).getD x s0 = _
    rw [alongTo, getD_set, if_neg (fun hh => h k (by omega) hh.1)]
    exact along_off F l st x k fun j hj => h j (by omega)
theorem along_on (F : Nat → Sx → Sx) (l : List Int) (st : List Sx) (hin : ∀ j, j < l.length → (l.getD j 0).toNat < st.length) (hnd : ∀ i j, i < l.length → j < l.length → (l.getD i 0).toNat = (l.getD j 0).toNat → i = j) :
    ∀ k, k ≤ l.length → ∀ j, j < k → sAt (alongTo F l st k) (l.getD j 0).toNat = F j (sAt st (l.getD j 0).toNat)
  | 0, _, j, hj => by omega
  | k + 1, hk, j, hj => by
    show (alongTo F l st (k + 1)).getD _ s0 = _
    rw [alongTo, getD_set, along_len]
    by_cases e : j = k
    · subst e
      rw [if_pos ⟨rfl, hin j (by omega)⟩]
      exact congrArg _ (along_off F l st _ j fun i hi h => by have := hnd i j (by omega) (by omega) h; omega)
    · rw [if_neg (fun hh => e (hnd k j (by omega) (by omega) hh.1).symm)]
      exact along_on F l st hin hnd k (by omega) j (by omega)
structure PaV (p : Pl) (l : List Int) : Prop where
  two : 2 ≤ l.length
  at_ : ∀ k, k < l.length → ∃ x : Nat, l.getD k 0 = (x : Int) ∧ x < p.ms.length
  nd : ∀ i j, i < l.length → j < l.length → l.getD i 0 = l.getD j 0 → i = j
  arc : ∀ k, k + 1 < l.length → (⟨l.getD k 0, l.getD (k + 1) 0⟩ : Ar) ∈ p.arcs
  inner : ∀ k, 0 < k → k + 1 < l.length → cvB (kdA p (l.getD k 0)) = true
  fst : cvB (kdA p (l.getD 0 0)) = false
  lst : cvB (kdA p (l.getD (l.length - 1) 0)) = false
  pit : kpB (kdA p (l.getD 0 0)) = true → kn (kdA p (l.getD 0 0)) = 1
  spt : kpB (kdA p (l.getD (l.length - 1) 0)) = true → kn (kdA p (l.getD (l.length - 1) 0)) = 1
theorem bg_cv {s : ByteArray} (h : bgB s = true) : cvB s = false ∧ (kpB s = true → kn s = 1) := by
  unfold bgB at h
  simp only [Bool.or_eq_true, decide_eq_true_eq] at h
  unfold cvB kpB
  refine ⟨decide_eq_false (by omega), fun hk => ?_⟩
  simp only [Bool.and_eq_true, decide_eq_true_eq] at hk
  omega
theorem en_cv {s : ByteArray} (h : enB s = true) : cvB s = false ∧ (kpB s = true → kn s = 1) := by
  unfold enB at h
  simp only [Bool.or_eq_true, decide_eq_true_eq] at h
  unfold cvB kpB
  refine ⟨decide_eq_false (by omega), fun hk => ?_⟩
  simp only [Bool.and_eq_true, decide_eq_true_eq] at hk
  omega
theorem getD_mem {l : List Int} {k : Nat} (h : k < l.length) : l.getD k 0 ∈ l := by
  rw [List.getD_eq_getElem?_getD, List.getElem?_eq_getElem h]; exact List.getElem_mem h
theorem mem_getD {l : List Int} {x : Int} (h : x ∈ l) : ∃ k, k < l.length ∧ l.getD k 0 = x := by
  obtain ⟨k, hk, rfl⟩ := List.mem_iff_getElem.1 h
  exact ⟨k, hk, by rw [List.getD_eq_getElem?_getD, List.getElem?_eq_getElem hk]; rfl⟩
theorem PaV.of {p : Pl} {l : List Int} (h : pathE p l = 0) : PaV p l := by
  obtain ⟨hin, hp⟩ := pathE_ok h
  obtain ⟨h1, h2, h3, h4, h5⟩ := (pathB_iff p l).1 hp
  have hk : ∀ k, k < l.length → 0 < k → (k + 1 = l.length ∨ cvB (kdA p (l.getD k 0)) = true) ∧ (⟨l.getD (k - 1) 0, l.getD k 0⟩ : Ar) ∈ p.arcs := fun k hk h0 => by
    have := h5 k hk
    unfold okK at this
    simp only [Bool.or_eq_true, Bool.and_eq_true, decide_eq_true_eq] at this
    rcases this with h | h
    · omega
    · exact h
  refine ⟨h1, fun k hk => inN_nat (hin _ (getD_mem hk)), fun i j hi hj e => ?_, fun k hk1 => ?_, fun k h0 hk1 => ?_, (bg_cv h2).1, (en_cv h3).1, (bg_cv h2).2, (en_cv h3).2⟩
  · rw [List.getD_eq_getElem?_getD, List.getElem?_eq_getElem hi, List.getD_eq_getElem?_getD, List.getElem?_eq_getElem hj] at e
    have h6 := List.pairwise_iff_getElem.1 (List.nodup_iff_pairwise_ne.1 h4)
    rcases Nat.lt_trichotomy i j with h | h | h
    · exact absurd e (h6 i j hi hj h)
    · exact h
    · exact absurd e.symm (h6 j i hj hi h)
  · have := (hk (k + 1) hk1 (by omega)).2
    rwa [Nat.add_sub_cancel] at this
  · rcases (hk k (by omega) h0).1 with h | h
    · omega
    · exact h
theorem PaV.nat {p : Pl} {l : List Int} (h : PaV p l) {k : Nat} (hk : k < l.length) : l.getD k 0 = ((l.getD k 0).toNat : Int) ∧ (l.getD k 0).toNat < p.ms.length := by
  obtain ⟨x, e, hx⟩ := h.at_ k hk
  rw [e]; simp; exact hx
theorem PaV.ndN {p : Pl} {l : List Int} (h : PaV p l) (i j : Nat) (hi : i < l.length) (hj : j < l.length) (e : (l.getD i 0).toNat = (l.getD j 0).toNat) : i = j :=
  h.nd i j hi hj (by rw [(h.nat hi).1, (h.nat hj).1, e])
theorem PaV.cases {p : Pl} {l : List Int} (_ : PaV p l) (x : Nat) : (∃ k, k < l.length ∧ (l.getD k 0).toNat = x) ∨ ∀ k, k < l.length → (l.getD k 0).toNat ≠ x := by
  by_cases h : ∃ k, k < l.length ∧ (l.getD k 0).toNat = x
  · exact .inl h
  · exact .inr fun k hk e => h ⟨k, hk, e⟩
theorem startL_ok {p : Pl} {st : List Sx} {g : ByteArray} : ∀ {r : List Int} {k : Nat}, startL p st g k r = 0 → ∀ i (h : i < r.length), startK p st g (k + i) r[i] = 0
  | [], _, _ => fun i hi => absurd hi (by simp)
  | a :: r, k, h => by
    unfold startL at h
    split at h
    · rename_i h1; exact absurd h h1
    · rename_i h1
      intro i hi
      cases i with
      | zero => simpa using h1
      | succ i =>
        have := startL_ok h i (by simpa using hi)
        simpa [Nat.add_assoc, Nat.add_comm 1 i] using this
theorem startL_zero {p : Pl} {st : List Sx} {g : ByteArray} : ∀ {r : List Int} {k : Nat}, (∀ i (h : i < r.length), startK p st g (k + i) r[i] = 0) → startL p st g k r = 0
  | [], _, _ => rfl
  | a :: r, k, h => by
    unfold startL
    have h0 := h 0 (by simp)
    simp only [Nat.add_zero, List.getElem_cons_zero] at h0
    rw [if_neg (by rw [h0]; simp)]
    refine startL_zero fun i hi => ?_
    have := h (i + 1) (by simpa using hi)
    simpa [Nat.add_assoc, Nat.add_comm 1 i] using this
structure StK (p : Pl) (st : List Sx) (g : ByteArray) (k : Nat) (m : Nat) : Prop where
  run : (sAt st m).runs = false
  fd : (sAt st m).feeds < 0
  fed : ∀ x : Nat, x < st.length → (sAt st x).feeds ≠ (m : Int)
  emp : k = 0 → kn (kdA p m) = 1 → (sAt st m).grain.toList.isEmpty = false
  gr : (sAt st m).grain.toList.isEmpty = true ∨ (sAt st m).grain.toList = g.toList
theorem fed_iff {st : List Sx} (m : Int) : st.any (fun s => s.feeds == m) = true ↔ ∃ x : Nat, x < st.length ∧ (sAt st x).feeds = m := by
  rw [List.any_eq_true]
  constructor
  · rintro ⟨s, hs, he⟩
    obtain ⟨k, hk, rfl⟩ := List.mem_iff_getElem.1 hs
    exact ⟨k, hk, by rw [sAt, stGet hk]; exact eq_of_beq he⟩
  · rintro ⟨k, hk, he⟩
    rw [sAt, stGet hk] at he
    exact ⟨st[k], List.getElem_mem hk, beq_iff_eq.2 he⟩
theorem startK_iff {p : Pl} {st : List Sx} {g : ByteArray} {k m : Nat} : startK p st g k (m : Int) = 0 ↔ StK p st g k m := by
  have hu : startK p st g k (m : Int) = if ((sAt st m).runs || decide (0 ≤ (sAt st m).feeds) || st.any (fun s => s.feeds == (m : Int))) = true then 26
    else if (decide (k = 0) && decide (kn (kdA p m) = 1) && (sAt st m).grain.toList.isEmpty) = true then 13
    else if (!(sAt st m).grain.toList.isEmpty && !((sAt st m).grain.toList == g.toList)) = true then 16 else 0 := rfl
  rw [hu]
  constructor
  · intro h
    split at h
    · cases h
    · rename_i h1
      split at h
      · cases h
      · rename_i h2
        split at h
        · cases h
        · rename_i h3
          simp only [Bool.or_eq_true, not_or, Bool.not_eq_true, decide_eq_true_eq] at h1
          obtain ⟨⟨a, b⟩, c⟩ := h1
          refine ⟨a, by omega, fun x hx e => ?_, fun h0 hk => ?_, ?_⟩
          · rw [(fed_iff (m : Int)).2 ⟨x, hx, e⟩] at c; cases c
          · rw [decide_eq_true h0, decide_eq_true hk] at h2
            simpa using h2
          · cases hq : (sAt st m).grain.toList.isEmpty with
            | true => exact .inl rfl
            | false =>
              rw [hq] at h3
              right; simpa using h3
  · rintro ⟨a, b, c, d, e⟩
    rw [if_neg, if_neg, if_neg]
    · simp only [Bool.and_eq_true, Bool.not_eq_true', not_and, Bool.not_eq_false]
      intro h
      rcases e with e | e
      · rw [h] at e; cases e
      · rw [e]; simp
    · simp only [Bool.and_eq_true, decide_eq_true_eq]
      rintro ⟨⟨h1, h2⟩, h3⟩
      rw [d h1 h2] at h3; cases h3
    · simp only [Bool.or_eq_true, decide_eq_true_eq, not_or, Bool.not_eq_true]
      refine ⟨⟨a, by omega⟩, ?_⟩
      cases hq : st.any (fun s => s.feeds == (m : Int)) with
      | false => rfl
      | true =>
        obtain ⟨x, hx, he⟩ := (fed_iff (m : Int)).1 hq
        exact absurd he (c x hx)
theorem startL_iff {p : Pl} {st : List Sx} {g : ByteArray} {l : List Int} (hl : PaV p l) : startL p st g 0 l = 0 ↔ ∀ k, k < l.length → StK p st g k (l.getD k 0).toNat := by
  have e : ∀ k (hk : k < l.length), l[k] = ((l.getD k 0).toNat : Int) := fun k hk => by
    rw [← (hl.nat hk).1, List.getD_eq_getElem?_getD, List.getElem?_eq_getElem hk]; rfl
  constructor
  · intro h k hk
    have := startL_ok h k hk
    rw [Nat.zero_add, e k hk] at this
    exact startK_iff.1 this
  · intro h
    refine startL_zero fun k hk => ?_
    rw [Nat.zero_add, e k hk]
    exact startK_iff.2 (h k hk)
theorem name_ne {s : ByteArray} (h : isName s = true) : s.toList.isEmpty = false := by
  unfold isName at h
  simp only [Bool.and_eq_true, decide_eq_true_eq] at h
  cases hq : s.toList.isEmpty with
  | false => rfl
  | true =>
    have h1 := List.isEmpty_iff.1 hq
    have h2 : s.toList.length = s.size := by simp [ByteArray.toList_eq]
    rw [h1] at h2
    simp at h2; omega
end Go.Proofs.YtpafjhjpchdcdaaGreatDoor
/- Plain: the commands keep a state valid. -/
namespace Go.Proofs.YtpafjhjpchdcdaaGreatDoor
open Go Go.Proofs Go.RowKit Go.Shelf
abbrev nAt (l : List Int) (k : Nat) : Nat := (l.getD k 0).toNat
structure Along (l : List Int) (F : Nat → Sx → Sx) (st S : List Sx) : Prop where
  len : S.length = st.length
  on : ∀ k, k < l.length → sAt S (nAt l k) = F k (sAt st (nAt l k))
  off : ∀ x, (∀ k, k < l.length → nAt l k ≠ x) → sAt S x = sAt st x
theorem Along.of {p : Pl} {l : List Int} (hl : PaV p l) {st : List Sx} (hn : st.length = p.ms.length) (F : Nat → Sx → Sx) : Along l F st (alongTo F l st l.length) :=
  ⟨along_len _ _ _ _, fun k hk => along_on F l st (fun j hj => by rw [hn]; exact (hl.nat hj).2) hl.ndN _ (Nat.le_refl _) k hk, fun x hx => along_off F l st x _ hx⟩
theorem StV.neg {p : Pl} {st : List Sx} (hok : OkP p) (h : StV p st) {x : Nat} (hx : x < p.ms.length) (h0 : (sAt st x).feeds < 0) : (sAt st x).feeds = -1 := by
  rcases h.fd x hx with h1 | h1
  · exact h1
  · obtain ⟨y, hy, _⟩ := inN_nat (hok.ins _ h1).2.1
    dsimp only at hy; omega
theorem StV.at_ {p : Pl} {st : List Sx} (hok : OkP p) (h : StV p st) {x y : Nat} (hx : x < p.ms.length) (h0 : (sAt st x).feeds = (y : Int)) : y < p.ms.length := by
  rcases h.fd x hx with h1 | h1
  · omega
  · obtain ⟨z, hz, hl⟩ := inN_nat (hok.ins _ h1).2.1
    dsimp only at hz; omega
theorem noB_list : (⟨#[]⟩ : ByteArray).toList = [] := by simp [ByteArray.toList_eq]
section
variable {p : Pl} {st S : List Sx} {l : List Int} {g : ByteArray} {cl : Bool}
structure StartV (p : Pl) (st S : List Sx) (l : List Int) (g : ByteArray) : Prop where
  len : S.length = st.length
  runs : ∀ k, k < l.length → (sAt S (nAt l k)).runs = cvB (kdA p (nAt l k : Nat))
  feeds : ∀ k, k + 1 < l.length → (sAt S (nAt l k)).feeds = (nAt l (k + 1) : Nat)
  fend : ∀ k, k + 1 = l.length → (sAt S (nAt l k)).feeds = -1
  grain : ∀ k, k < l.length → (sAt S (nAt l k)).grain = if kpB (kdA p (nAt l k : Nat)) then g else (sAt st (nAt l k)).grain
  off : ∀ x, (∀ k, k < l.length → nAt l k ≠ x) → sAt S x = sAt st x
theorem StartV.of (hok : OkP p) (h : StV p st) (hl : PaV p l) (hs : ∀ k, k < l.length → StK p st g k (nAt l k)) : StartV p st (startTo p l g st l.length) l g := by
  have A := Along.of hl h.len (startV p l g)
  rw [← start_along] at A
  generalize startTo p l g st l.length = S at A
  refine ⟨A.len, fun k hk => by rw [A.on k hk]; rfl, fun k hk => ?_, fun k hk => ?_, fun k hk => by rw [A.on k hk]; rfl, A.off⟩
  · rw [A.on k (by omega)]
    show (if k + 1 < l.length then l.getD (k + 1) 0 else _) = _
    rw [if_pos hk]; exact (hl.nat hk).1
  · rw [A.on k (by omega)]
    show (if k + 1 < l.length then l.getD (k + 1) 0 else (sAt st (nAt l k)).feeds) = _
    rw [if_neg (by omega)]
    exact h.neg hok (hl.nat (by omega)).2 (hs k (by omega)).fd
theorem StartV.to (A : StartV p st S l g) (hok : OkP p) (h : StV p st) (hl : PaV p l) (hs : ∀ k, k < l.length → StK p st g k (nAt l k)) {x y : Nat} (hx : x < p.ms.length) (hf : (sAt S x).feeds = (y : Int)) :
    (∃ k, k + 1 < l.length ∧ x = nAt l k ∧ y = nAt l (k + 1)) ∨ ((∀ k, k < l.length → nAt l k ≠ x) ∧ (∀ k, k < l.length → nAt l k ≠ y) ∧ (sAt st x).feeds = (y : Int)) := by
  rcases hl.cases x with ⟨k, hk, rfl⟩ | hx0
  · by_cases hk1 : k + 1 < l.length
    · rw [A.feeds k hk1] at hf
      exact .inl ⟨k, hk1, rfl, by omega⟩
    · have := A.fend k (by omega); unfold nAt at this; omega
  · rw [A.off x hx0] at hf
    refine .inr ⟨hx0, fun k hk e => ?_, hf⟩
    have := (hs k hk).fed x (by have := h.len; omega)
    rw [e] at this; exact this hf
theorem StartV.valid (A : StartV p st S l g) (hok : OkP p) (h : StV p st) (hl : PaV p l) (hs : ∀ k, k < l.length → StK p st g k (nAt l k)) (hg : isName g = true) : StV p S := by
  have T := fun {x y : Nat} => A.to hok h hl hs (x := x) (y := y)
  have hge := name_ne hg
  refine ⟨A.len.trans h.len, fun x hx hr => ?_, fun x hx => ?_, fun x hx hr => ?_, fun x hx hr => ?_, fun x y hx hy h0 he => ?_, fun x y hx hf hr hc => ?_, fun x y hx hf hk => ?_, fun x y hx hf hk => ?_, fun x y hx hf hk hk2 => ?_⟩
  · rcases hl.cases x with ⟨k, hk, rfl⟩ | hx0
    · rw [← A.runs k hk]; exact hr
    · rw [A.off x hx0] at hr; exact h.run x hx hr
  · rcases hl.cases x with ⟨k, hk, rfl⟩ | hx0
    · by_cases hk1 : k + 1 < l.length
      · right
        have := hl.arc k hk1
        rw [(hl.nat hk).1, (hl.nat hk1).1] at this
        have e := A.feeds k hk1
        unfold nAt at e
        rw [e]; exact this
      · left; exact A.fend k (by omega)
    · rw [A.off x hx0]; exact h.fd x hx
  · rcases hl.cases x with ⟨k, hk, rfl⟩ | hx0
    · have e := A.grain k hk
      unfold nAt at e
      rw [e] at hr ⊢
      cases hq : kpB (kdA p ((l.getD k 0).toNat : Nat)) with
      | true => exact ⟨hg, rfl⟩
      | false =>
        rw [hq] at hr
        have := h.gr _ hx hr
        rw [hq] at this
        exact absurd this.2 (by simp)
    · rw [A.off x hx0] at hr ⊢; exact h.gr x hx hr
  · rcases hl.cases x with ⟨k, hk, rfl⟩ | hx0
    · by_cases hk1 : k + 1 < l.length
      · have := A.feeds k hk1; unfold nAt at this; omega
      · have e := A.runs k hk
        have e2 := hl.lst
        rw [show l.length - 1 = k by omega, (hl.nat hk).1] at e2
        unfold nAt at e
        rw [e]; exact e2
    · rw [A.off x hx0] at hr ⊢; exact h.nr x hx hr
  · obtain ⟨z, hz⟩ : ∃ z : Nat, (sAt S x).feeds = (z : Int) := ⟨(sAt S x).feeds.toNat, by omega⟩
    rcases T hx hz with ⟨k, hk, e1, e2⟩ | ⟨a1, a2, a3⟩ <;> rcases T hy (he ▸ hz) with ⟨j, hj, f1, f2⟩ | ⟨b1, b2, b3⟩
    · have := hl.ndN (k + 1) (j + 1) hk hj (e2.symm.trans f2)
      rw [e1, f1, Nat.succ.inj this]
    · exact absurd e2.symm (b2 _ hk)
    · exact absurd f2.symm (a2 _ hj)
    · exact h.uq x y hx hy (by omega) (a3.trans b3.symm)
  · rcases T hx hf with ⟨k, hk, e1, e2⟩ | ⟨a1, a2, a3⟩
    · rw [e2, A.runs _ hk, ← e2]; exact hc
    · rw [A.off y a2]
      rw [A.off x a1] at hr
      exact h.fl x y hx a3 hr hc
  · rcases T hx hf with ⟨k, hk1, e1, e2⟩ | ⟨a1, a2, a3⟩
    · rw [e1, A.grain _ (by omega), ← e1, hk]; exact hge
    · rw [A.off x a1]; exact h.g1 x y hx a3 hk
  · rcases T hx hf with ⟨k, hk1, e1, e2⟩ | ⟨a1, a2, a3⟩
    · rw [e2, A.grain _ hk1, ← e2, hk]; exact hge
    · rw [A.off y a2]; exact h.g2 x y hx a3 hk
  · rcases T hx hf with ⟨k, hk1, e1, e2⟩ | ⟨a1, a2, a3⟩
    · rw [e2, A.grain _ hk1, ← e2, hk2, e1, A.grain _ (by omega), ← e1, hk]; rfl
    · rw [A.off y a2, A.off x a1]; exact h.g3 x y hx a3 hk hk2
theorem setB_at (hl : PaV p l) : setB st l = true ↔ ∀ k, k + 1 < l.length → (sAt st (nAt l k)).feeds = (nAt l (k + 1) : Nat) := by
  rw [setB_iff]
  constructor
  · intro h k hk
    have := h (k + 1) hk
    unfold setK at this
    simp only [Bool.or_eq_true, decide_eq_true_eq, Nat.add_sub_cancel, beq_iff_eq] at this
    rcases this with h1 | h1
    · omega
    · rw [← (hl.nat hk).1]; exact h1
  · intro h k hk
    unfold setK
    simp only [Bool.or_eq_true, decide_eq_true_eq, beq_iff_eq]
    by_cases h0 : k = 0
    · exact .inl h0
    · right
      have := h (k - 1) (by omega)
      rw [show k - 1 + 1 = k by omega] at this
      rw [(hl.nat hk).1]; exact this
structure StopV (p : Pl) (st S : List Sx) (l : List Int) (cl : Bool) : Prop where
  len : S.length = st.length
  runs : ∀ k, k < l.length → (sAt S (nAt l k)).runs = false
  feeds : ∀ k, k + 1 < l.length → (sAt S (nAt l k)).feeds = -1
  fend : ∀ k, k + 1 = l.length → (sAt S (nAt l k)).feeds = (sAt st (nAt l k)).feeds
  grain : ∀ k, k < l.length → (sAt S (nAt l k)).grain = if cvB (kdA p (nAt l k : Nat)) && cl then ⟨#[]⟩ else (sAt st (nAt l k)).grain
  off : ∀ x, (∀ k, k < l.length → nAt l k ≠ x) → sAt S x = sAt st x
theorem StopV.of (h : StV p st) (hl : PaV p l) (cl : Bool) : StopV p st (stopTo p l cl st l.length) l cl := by
  have A := Along.of hl h.len (stopV p l cl)
  rw [← stop_along] at A
  generalize stopTo p l cl st l.length = S at A
  refine ⟨A.len, fun k hk => ?_, fun k hk => ?_, fun k hk => ?_, fun k hk => by rw [A.on k hk]; rfl, A.off⟩
  · rw [A.on k hk]
    show (if cvB (kdA p (nAt l k : Nat)) then false else (sAt st (nAt l k)).runs) = false
    cases hq : cvB (kdA p (nAt l k : Nat)) with
    | true => rfl
    | false =>
      cases hr : (sAt st (nAt l k)).runs with
      | false => rfl
      | true => have := h.run _ (hl.nat hk).2 hr; unfold nAt at hq; rw [hq] at this; cases this
  · rw [A.on k (by omega)]
    show (if k + 1 < l.length then -1 else _) = _
    rw [if_pos hk]
  · rw [A.on k (by omega)]
    show (if k + 1 < l.length then -1 else _) = _
    rw [if_neg (by omega)]
theorem StopV.to (A : StopV p st S l cl) (h : StV p st) (hl : PaV p l) (hs : ∀ k, k + 1 < l.length → (sAt st (nAt l k)).feeds = (nAt l (k + 1) : Nat)) {x y : Nat} (hx : x < p.ms.length) (hf : (sAt S x).feeds = (y : Int)) :
    (sAt st x).feeds = (y : Int) ∧ (∀ k, k + 1 < l.length → nAt l k ≠ x) ∧ (sAt S x).grain = (sAt st x).grain ∧ ((sAt S x).runs = true → (sAt st x).runs = true ∧ (cvB (kdA p y) = true → (sAt S y).runs = (sAt st y).runs)) ∧ (sAt S y).grain = (sAt st y).grain := by
  have h1 : (sAt st x).feeds = (y : Int) ∧ (∀ k, k + 1 < l.length → nAt l k ≠ x) ∧ (sAt S x).grain = (sAt st x).grain ∧ ((sAt S x).runs = true → (sAt st x).runs = true) := by
    rcases hl.cases x with ⟨k, hk, rfl⟩ | hx0
    · by_cases hk1 : k + 1 < l.length
      · have := A.feeds k hk1; unfold nAt at this; omega
      · have e1 := A.fend k (by omega)
        have e2 := A.grain k hk
        have e3 := A.runs k hk
        have e4 := hl.lst
        rw [show l.length - 1 = k by omega, (hl.nat hk).1] at e4
        unfold nAt at e1 e2 e3
        rw [e4] at e2
        refine ⟨e1.symm.trans hf, fun j hj e => ?_, e2, fun hr => by rw [e3] at hr; cases hr⟩
        have := hl.ndN j k (by omega) hk e
        omega
    · rw [A.off x hx0] at hf ⊢
      exact ⟨hf, fun k hk => hx0 k (by omega), rfl, fun h => h⟩
  obtain ⟨a1, a2, a3, a4⟩ := h1
  have h2 : ∀ j, j < l.length → nAt l j = y → cvB (kdA p y) = false := fun j hj e => by
    subst e
    by_cases h0 : j = 0
    · subst h0
      have := hl.fst
      rw [(hl.nat hj).1] at this; exact this
    · have e5 := hs (j - 1) (by omega)
      rw [show j - 1 + 1 = j by omega] at e5
      exact absurd (h.uq _ _ (hl.nat (by omega)).2 hx (show 0 ≤ (sAt st (nAt l (j - 1))).feeds by rw [e5]; exact Int.natCast_nonneg _) (e5.trans a1.symm)) (a2 (j - 1) (by omega))
  refine ⟨a1, a2, a3, fun hr => ⟨a4 hr, fun hc => ?_⟩, ?_⟩
  · rw [A.off y fun k hk e => by rw [h2 k hk e] at hc; cases hc]
  · rcases hl.cases y with ⟨k, hk, rfl⟩ | hy0
    · have e2 := A.grain k hk
      unfold nAt at e2
      rw [e2, h2 k hk rfl]; rfl
    · rw [A.off y hy0]
theorem StopV.valid (A : StopV p st S l cl) (h : StV p st) (hl : PaV p l) (hs : ∀ k, k + 1 < l.length → (sAt st (nAt l k)).feeds = (nAt l (k + 1) : Nat)) : StV p S := by
  have T := fun {x y : Nat} => A.to h hl hs (x := x) (y := y)
  refine ⟨A.len.trans h.len, fun x hx hr => ?_, fun x hx => ?_, fun x hx hr => ?_, fun x hx hr => ?_, fun x y hx hy h0 he => ?_, fun x y hx hf hr hc => ?_, fun x y hx hf hk => ?_, fun x y hx hf hk => ?_, fun x y hx hf hk hk2 => ?_⟩
  · rcases hl.cases x with ⟨k, hk, rfl⟩ | hx0
    · have e3 := A.runs k hk; unfold nAt at e3; rw [e3] at hr; cases hr
    · rw [A.off x hx0] at hr; exact h.run x hx hr
  · rcases hl.cases x with ⟨k, hk, rfl⟩ | hx0
    · by_cases hk1 : k + 1 < l.length
      · left; exact A.feeds k hk1
      · have e := A.fend k (by omega)
        unfold nAt at e
        rw [e]; exact h.fd _ hx
    · rw [A.off x hx0]; exact h.fd x hx
  · rcases hl.cases x with ⟨k, hk, rfl⟩ | hx0
    · have e := A.grain k hk
      unfold nAt at e
      rw [e] at hr ⊢
      cases hq : cvB (kdA p ((l.getD k 0).toNat : Nat)) && cl with
      | true => rw [hq, if_pos rfl, noB_list] at hr; cases hr
      | false => rw [hq] at hr; exact h.gr _ hx hr
    · rw [A.off x hx0] at hr ⊢; exact h.gr x hx hr
  · rcases hl.cases x with ⟨k, hk, rfl⟩ | hx0
    · exact A.runs k hk
    · rw [A.off x hx0] at hr ⊢; exact h.nr x hx hr
  · obtain ⟨z, hz⟩ : ∃ z : Nat, (sAt S x).feeds = (z : Int) := ⟨(sAt S x).feeds.toNat, by omega⟩
    have t1 := (T hx hz).1
    have t2 := (T hy (he ▸ hz)).1
    exact h.uq x y hx hy (by omega) (t1.trans t2.symm)
  · obtain ⟨a1, _, _, a4, _⟩ := T hx hf
    obtain ⟨a5, a6⟩ := a4 hr
    rw [a6 hc]; exact h.fl x y hx a1 a5 hc
  · obtain ⟨a1, _, a3, _, _⟩ := T hx hf
    rw [a3]; exact h.g1 x y hx a1 hk
  · obtain ⟨a1, _, _, _, a5⟩ := T hx hf
    rw [a5]; exact h.g2 x y hx a1 hk
  · obtain ⟨a1, _, a3, _, a5⟩ := T hx hf
    rw [a5, a3]; exact h.g3 x y hx a1 hk hk2
structure ResV (p : Pl) (st S : List Sx) (l : List Int) : Prop where
  len : S.length = st.length
  runs : ∀ k, k < l.length → (sAt S (nAt l k)).runs = cvB (kdA p (nAt l k : Nat))
  feeds : ∀ x, (sAt S x).feeds = (sAt st x).feeds
  grain : ∀ x, (sAt S x).grain = (sAt st x).grain
  off : ∀ x, (∀ k, k < l.length → nAt l k ≠ x) → sAt S x = sAt st x
theorem ResV.of (h : StV p st) (hl : PaV p l) : ResV p st (resumeTo p l st l.length) l := by
  have A := Along.of hl h.len (resumeV p l)
  rw [← resume_along] at A
  generalize resumeTo p l st l.length = S at A
  refine ⟨A.len, fun k hk => by rw [A.on k hk]; rfl, fun x => ?_, fun x => ?_, A.off⟩
  · rcases hl.cases x with ⟨k, hk, rfl⟩ | hx0
    · have e := A.on k hk; unfold nAt at e; rw [e]; rfl
    · rw [A.off x hx0]
  · rcases hl.cases x with ⟨k, hk, rfl⟩ | hx0
    · have e := A.on k hk; unfold nAt at e; rw [e]; rfl
    · rw [A.off x hx0]
theorem ResV.valid (A : ResV p st S l) (h : StV p st) (hl : PaV p l) (hs : ∀ k, k + 1 < l.length → (sAt st (nAt l k)).feeds = (nAt l (k + 1) : Nat)) : StV p S := by
  have HL : ∀ k, k + 1 = l.length → (sAt S (nAt l k)).runs = false := fun k hk => by
    rw [A.runs k (by omega)]
    have e4 := hl.lst
    rw [show l.length - 1 = k by omega, (hl.nat (by omega)).1] at e4
    exact e4
  refine ⟨A.len.trans h.len, fun x hx hr => ?_, fun x hx => by rw [A.feeds]; exact h.fd x hx, fun x hx hr => by rw [A.grain] at hr ⊢; exact h.gr x hx hr, fun x hx hr => ?_, fun x y hx hy h0 he => by rw [A.feeds] at h0 he; rw [A.feeds] at he; exact h.uq x y hx hy h0 he, fun x y hx hf hr hc => ?_, fun x y hx hf hk => ?_, fun x y hx hf hk => ?_, fun x y hx hf hk hk2 => ?_⟩
  · rcases hl.cases x with ⟨k, hk, rfl⟩ | hx0
    · rw [← A.runs k hk]; exact hr
    · rw [A.off x hx0] at hr; exact h.run x hx hr
  · rcases hl.cases x with ⟨k, hk, rfl⟩ | hx0
    · by_cases hk1 : k + 1 < l.length
      · have e := hs k hk1
        rw [A.feeds] at hr
        unfold nAt at e; omega
      · exact HL k (by omega)
    · rw [A.off x hx0] at hr ⊢; exact h.nr x hx hr
  · rw [A.feeds] at hf
    rcases hl.cases y with ⟨j, hj, rfl⟩ | hy0
    · have e := A.runs j hj
      unfold nAt at e
      rw [e]; exact hc
    · rw [A.off y hy0]
      rcases hl.cases x with ⟨k, hk, rfl⟩ | hx0
      · by_cases hk1 : k + 1 < l.length
        · have e := hs k hk1
          unfold nAt at e
          exact absurd (show nAt l (k + 1) = y by unfold nAt; omega) (hy0 _ hk1)
        · have e := HL k (by omega)
          unfold nAt at e
          rw [e] at hr; cases hr
      · rw [A.off x hx0] at hr
        exact h.fl x y hx hf hr hc
  · rw [A.feeds] at hf; rw [A.grain]; exact h.g1 x y hx hf hk
  · rw [A.feeds] at hf; rw [A.grain]; exact h.g2 x y hx hf hk
  · rw [A.feeds] at hf; rw [A.grain, A.grain]; exact h.g3 x y hx hf hk hk2
end
end Go.Proofs.YtpafjhjpchdcdaaGreatDoor
/- Plain: a path that is started and cleaned; a fault and a return to work; stopped and started again. -/
namespace Go.Proofs.YtpafjhjpchdcdaaGreatDoor
open Go Go.Proofs Go.RowKit Go.Shelf
section
variable {p : Pl} {st S : List Sx} {l : List Int} {g : ByteArray}
theorem StartV.set (A : StartV p st S l g) (hl : PaV p l) : setB S l = true := (setB_at hl).2 A.feeds
theorem StartV.runsB (A : StartV p st S l g) (hl : PaV p l) : YtpafjhjpchdcdaaGreatDoor.runsB p S l = true := by
  unfold YtpafjhjpchdcdaaGreatDoor.runsB
  rw [List.all_eq_true]
  intro y hy
  obtain ⟨k, hk, rfl⟩ := mem_getD hy
  have e := A.runs k hk
  unfold nAt sAt at e
  unfold runK
  rw [e, (hl.nat hk).1]
  simp
theorem StartV.cleaned (A : StartV p st S l g) {C : List Sx} (B : StopV p S C l true) (hok : OkP p) (h : StV p st) (hl : PaV p l) (hs : ∀ k, k < l.length → StK p st g k (nAt l k)) (x : Nat) (hx : x < p.ms.length) :
    (sAt C x).runs = (sAt st x).runs ∧ (sAt C x).feeds = (sAt st x).feeds ∧
      (sAt C x).grain.toList = (if (x : Int) ∈ l ∧ cvB (kdA p x) = true then ([] : List UInt8) else if (x : Int) = l.getD (l.length - 1) 0 ∧ kn (kdA p x) = 1 then g.toList else (sAt st x).grain.toList) := by
  have hlen := A.len.trans h.len
  have hpos := hl.two
  rcases hl.cases x with ⟨k, hk, rfl⟩ | hx0
  · have e1 := B.runs k hk
    have e2 := B.grain k hk
    have e3 := A.grain k hk
    have hK := hs k hk
    have hm : (((l.getD k 0).toNat : Nat) : Int) ∈ l := by rw [← (hl.nat hk).1]; exact getD_mem hk
    unfold nAt at e1 e2 e3
    refine ⟨e1.trans hK.run.symm, ?_, ?_⟩
    · by_cases hk1 : k + 1 < l.length
      · exact (B.feeds k hk1).trans (h.neg hok hx hK.fd).symm
      · have e4 := B.fend k (by omega)
        have e5 := A.fend k (by omega)
        unfold nAt at e4 e5
        exact e4.trans (e5.trans (h.neg hok hx hK.fd).symm)
    · rw [e2, e3]
      have hF : ∀ (A : Prop) [Decidable A] (x y : List UInt8), (if A ∧ (false : Bool) = true then x else y) = y := fun A _ x y => if_neg fun h => by cases h.2
      cases hc : cvB (kdA p ((l.getD k 0).toNat : Nat)) with
      | true =>
        show ((⟨#[]⟩ : ByteArray)).toList = _
        rw [noB_list, if_pos ⟨hm, rfl⟩]
      | false =>
        show (if kpB (kdA p ((l.getD k 0).toNat : Nat)) then g else (sAt st (l.getD k 0).toNat).grain).toList = _
        rw [hF]
        by_cases hk1 : k + 1 = l.length
        · rw [show l.length - 1 = k by omega, ← (hl.nat hk).1]
          cases hp : kpB (kdA p (l.getD k 0)) with
          | true =>
            have := hl.spt
            rw [show l.length - 1 = k by omega] at this
            show g.toList = _
            rw [if_pos ⟨rfl, this hp⟩]
          | false =>
            show (sAt st (l.getD k 0).toNat).grain.toList = _
            rw [if_neg]
            rintro ⟨_, h1⟩
            unfold kpB at hp
            rw [h1] at hp; cases hp
        · have hk0 : k = 0 := by
            refine Decidable.byContradiction fun hk0 => ?_
            have := hl.inner k (by omega) (by omega)
            rw [(hl.nat hk).1] at this
            rw [hc] at this; cases this
          subst hk0
          have hno : ¬ ((((l.getD 0 0).toNat : Nat) : Int) = l.getD (l.length - 1) 0 ∧ kn (kdA p ((l.getD 0 0).toNat : Nat)) = 1) := by
            rintro ⟨h1, _⟩
            rw [← (hl.nat hk).1] at h1
            have := hl.nd 0 (l.length - 1) hk (by omega) h1
            omega
          cases hp : kpB (kdA p ((l.getD 0 0).toNat : Nat)) with
          | true =>
            have h1 := hl.pit
            rw [(hl.nat hk).1] at h1
            have h2 := hK.emp rfl (h1 hp)
            show g.toList = _
            rw [if_neg hno]
            rcases hK.gr with h3 | h3
            · rw [h2] at h3; cases h3
            · exact h3.symm
          | false =>
            show (sAt st (l.getD 0 0).toNat).grain.toList = _
            rw [if_neg hno]
  · rw [B.off x hx0, A.off x hx0]
    have hn : ∀ k, k < l.length → (x : Int) ≠ l.getD k 0 := fun k hk e => hx0 k hk (by omega)
    rw [if_neg, if_neg]
    · exact ⟨rfl, rfl, rfl⟩
    · rintro ⟨h1, _⟩; exact hn _ (by omega) h1
    · rintro ⟨h1, _⟩
      obtain ⟨k, hk, e⟩ := mem_getD h1
      exact hn k hk e.symm
end
end Go.Proofs.YtpafjhjpchdcdaaGreatDoor
/- Plain: what a command may change; two paths that are set have no machine in common. -/
namespace Go.Proofs.YtpafjhjpchdcdaaGreatDoor
open Go Go.Proofs Go.RowKit Go.Shelf
def OneW (p : Pl) (st : List Sx) : Prop := ∀ x y : Nat, x < p.ms.length → (sAt st x).feeds = (y : Int) → cvB (kdA p y) = false → (sAt st y).feeds < 0
section
variable {p : Pl} {st S : List Sx} {l : List Int} {g g' : ByteArray} {cl : Bool}
theorem PaV.mem (hl : PaV p l) {x : Nat} : (x : Int) ∈ l ↔ ∃ k, k < l.length ∧ nAt l k = x := by
  constructor
  · intro h
    obtain ⟨k, hk, e⟩ := mem_getD h
    exact ⟨k, hk, by unfold nAt; omega⟩
  · rintro ⟨k, hk, e⟩
    have := getD_mem hk
    rw [(hl.nat hk).1] at this
    subst e; exact this
end
theorem emp_at (n x : Nat) (hx : x < n) : sAt (emptyS n) x = ⟨false, -1, ⟨#[]⟩⟩ := by
  unfold sAt emptyS
  rw [List.getD_eq_getElem?_getD, List.getElem?_replicate, if_pos hx]; rfl
theorem emp_valid (p : Pl) : StV p (emptyS p.ms.length) ∧ OneW p (emptyS p.ms.length) := by
  have e := emp_at p.ms.length
  refine ⟨⟨List.length_replicate, fun x hx h => ?_, fun x hx => ?_, fun x hx h => ?_, fun x hx _ => ?_, fun x y hx hy h => ?_, fun x y hx h => ?_, fun x y hx h => ?_, fun x y hx h => ?_, fun x y hx h => ?_⟩, fun x y hx h => ?_⟩
  · rw [e x hx] at h; cases h
  · rw [e x hx]; exact .inl rfl
  · rw [e x hx] at h
    have h' : (⟨#[]⟩ : ByteArray).toList.isEmpty = false := h
    rw [noB_list] at h'; cases h'
  · rw [e x hx]
  all_goals
    rw [e x hx] at h
    dsimp only at h
    omega
end Go.Proofs.YtpafjhjpchdcdaaGreatDoor
