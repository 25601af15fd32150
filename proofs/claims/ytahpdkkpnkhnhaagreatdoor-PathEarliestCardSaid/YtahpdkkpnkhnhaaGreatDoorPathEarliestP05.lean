/- Lemmas on the way to the law PathEarliest (part 5): Na Pd Te Ud Uf Ub Uc Uh -/
import Derived.Test.YtahpdkkpnkhnhaaGreatDoorPathEarliestP04
import Derived.Test.YtahpdkkpnkhnhaaGreatDoorPathEarliestP01
import Derived.Test.YtahpdkkpnkhnhaaGreatDoorLib29
import Derived.Test.YtahpdkkpnkhnhaaGreatDoorLib24
import Derived.Laws.AppendOwnNone
import Derived.RegionTactic
import Derived.BigRegion
import Derived.Test.YtahpdkkpnkhnhaaGreatDoorPathEarliestP03
set_option linter.unusedVariables false
set_option linter.unusedSimpArgs false

/- Plain: what the commands make of a valid state. -/
namespace Go.Proofs.YtahpdkkpnkhnhaaGreatDoor
open Go Go.Proofs Go.RowKit Go.Shelf
abbrev sAt (st : List Sx) (x : Nat) : Sx := st.getD x s0
structure StV (p : Pl) (st : List Sx) : Prop where
  len : st.length = p.ms.length
  run : ∀ x : Nat, x < p.ms.length → (sAt st x).runs = true → cvB (kdA p x) = true
  fd : ∀ x : Nat, x < p.ms.length → (sAt st x).feeds = -1 ∨ (⟨x, (sAt st x).feeds⟩ : Ar) ∈ p.arcs
  gr : ∀ x : Nat, x < p.ms.length → (sAt st x).grain.toList.isEmpty = false → isName (sAt st x).grain = true ∧ kpB (kdA p x) = true
  nr : ∀ x : Nat, x < p.ms.length → (sAt st x).feeds < 0 → (sAt st x).runs = false
  uq : ∀ x y : Nat, x < p.ms.length → y < p.ms.length → 0 ≤ (sAt st x).feeds → (sAt st x).feeds = (sAt st y).feeds → x = y
  fl : ∀ x y : Nat, x < p.ms.length → (sAt st x).feeds = (y : Int) → (sAt st x).runs = true → cvB (kdA p y) = true → (sAt st y).runs = true
  g1 : ∀ x y : Nat, x < p.ms.length → (sAt st x).feeds = (y : Int) → kpB (kdA p x) = true → (sAt st x).grain.toList.isEmpty = false
  g2 : ∀ x y : Nat, x < p.ms.length → (sAt st x).feeds = (y : Int) → kpB (kdA p y) = true → (sAt st y).grain.toList.isEmpty = false
  g3 : ∀ x y : Nat, x < p.ms.length → (sAt st x).feeds = (y : Int) → kpB (kdA p x) = true → kpB (kdA p y) = true → (sAt st x).grain.toList = (sAt st y).grain.toList
theorem fedB_iff {st : List Sx} {i : Nat} (hi : i ≤ st.length) (x : Int) : fedB st i x = true ↔ ∃ k, k < i ∧ (sAt st k).feeds = x := by
  unfold fedB
  rw [List.any_eq_true]
  constructor
  · rintro ⟨s, hs, he⟩
    obtain ⟨k, hk, rfl⟩ := List.mem_iff_getElem.1 hs
    rw [List.length_take] at hk
    refine ⟨k, by omega, ?_⟩
    rw [List.getElem_take] at he
    rw [sAt, stGet (by omega)]
    exact eq_of_beq he
  · rintro ⟨k, hk, he⟩
    refine ⟨st[k]'(by omega), ?_, ?_⟩
    · rw [List.mem_iff_getElem]
      exact ⟨k, by rw [List.length_take]; omega, List.getElem_take⟩
    · rw [sAt, stGet (by omega)] at he
      exact beq_iff_eq.2 he
theorem stE_zero {p : Pl} {m : Nat} {s : Sx} (h1 : s.runs = true → cvB (kdA p m) = true) (h2 : s.feeds = -1 ∨ (⟨m, s.feeds⟩ : Ar) ∈ p.arcs) (h3 : s.grain.toList.isEmpty = false → isName s.grain = true ∧ kpB (kdA p m) = true) : stE p m s = 0 := by
  unfold stE
  rw [if_neg, if_neg, if_neg, if_neg]
  · rintro ⟨a, b⟩; rw [(h3 a).2] at b; cases b
  · rintro ⟨a, b⟩; rw [(h3 a).1] at b; cases b
  · rintro ⟨a, b⟩
    rcases h2 with h | h
    · exact a h
    · exact absurd h (of_decide_eq_false b)
  · intro h
    simp only [Bool.and_eq_true, Bool.not_eq_true'] at h
    rw [h1 h.1] at h; cases h.2
theorem ckStL_zero {p : Pl} : ∀ {r : List Sx} {k : Nat}, (∀ i (h : i < r.length), stE p (k + i) r[i] = 0) → ckStL p k r = 0
  | [], _, _ => rfl
  | a :: r, k, h => by
    unfold ckStL
    have h0 := h 0 (by simp)
    simp only [Nat.add_zero, List.getElem_cons_zero] at h0
    rw [if_neg (by rw [h0]; simp)]
    refine ckStL_zero fun i hi => ?_
    have := h (i + 1) (by simpa using hi)
    simpa [Nat.add_assoc, Nat.add_comm 1 i] using this
theorem vdK_ok {p : Pl} {st : List Sx} {i : Nat} (hi : i ≤ st.length) (h : vdK p st i = true) :
    ((sAt st i).feeds < 0 → (sAt st i).runs = false) ∧ (0 ≤ (sAt st i).feeds → (∀ k, k < i → (sAt st k).feeds ≠ (sAt st i).feeds)) ∧
      ∀ y : Nat, (sAt st i).feeds = (y : Int) → ((sAt st i).runs = true → cvB (kdA p y) = true → (sAt st y).runs = true) ∧ (kpB (kdA p i) = true → (sAt st i).grain.toList.isEmpty = false) ∧ (kpB (kdA p y) = true → (sAt st y).grain.toList.isEmpty = false) ∧
        (kpB (kdA p i) = true → kpB (kdA p y) = true → (sAt st i).grain.toList = (sAt st y).grain.toList) := by
  unfold vdK at h
  change (if (sAt st i).feeds < 0 then !(sAt st i).runs else
  !(fedB st i (sAt st i).feeds || ((sAt st i).runs && cvB (kdA p (sAt st i).feeds) && !(sAt st (sAt st i).feeds.toNat).runs)) &&
  !((kpB (kdA p i) && (sAt st i).grain.toList.isEmpty) || (kpB (kdA p (sAt st i).feeds) && (sAt st (sAt st i).feeds.toNat).grain.toList.isEmpty) || (kpB (kdA p i) && kpB (kdA p (sAt st i).feeds) && !((sAt st i).grain.toList == (sAt st (sAt st i).feeds.toNat).grain.toList)))) = true at h
  by_cases hf : (sAt st i).feeds < 0
  · rw [if_pos hf] at h
    refine ⟨fun _ => by simpa using h, fun h0 => by omega, fun y hy => by omega⟩
  · rw [if_neg hf] at h
    simp only [Bool.and_eq_true, Bool.not_eq_true', Bool.or_eq_false_iff] at h
    obtain ⟨⟨h1, h2⟩, ⟨h3, h4⟩, h5⟩ := h
    refine ⟨fun h0 => absurd h0 hf, fun _ k hk e => ?_, fun y hy => ?_⟩
    · have := (fedB_iff hi (sAt st i).feeds).2 ⟨k, hk, e⟩
      rw [h1] at this; cases this
    · rw [hy, Int.toNat_natCast] at h2 h4 h5
      refine ⟨fun a b => ?_, fun a => ?_, fun a => ?_, fun a b => ?_⟩
      · rw [a, b] at h2; simpa using h2
      · rw [a] at h3; simpa using h3
      · rw [a] at h4; simpa using h4
      · rw [a, b] at h5; simpa using h5
theorem vdK_mk {p : Pl} {st : List Sx} {i : Nat} (hi : i ≤ st.length) (h1 : (sAt st i).feeds < 0 → (sAt st i).runs = false) (h2 : 0 ≤ (sAt st i).feeds → (∀ k, k < i → (sAt st k).feeds ≠ (sAt st i).feeds))
    (h3 : ∀ y : Nat, (sAt st i).feeds = (y : Int) → ((sAt st i).runs = true → cvB (kdA p y) = true → (sAt st y).runs = true) ∧ (kpB (kdA p i) = true → (sAt st i).grain.toList.isEmpty = false) ∧ (kpB (kdA p y) = true → (sAt st y).grain.toList.isEmpty = false) ∧
        (kpB (kdA p i) = true → kpB (kdA p y) = true → (sAt st i).grain.toList = (sAt st y).grain.toList)) : vdK p st i = true := by
  unfold vdK
  change (if (sAt st i).feeds < 0 then !(sAt st i).runs else
  !(fedB st i (sAt st i).feeds || ((sAt st i).runs && cvB (kdA p (sAt st i).feeds) && !(sAt st (sAt st i).feeds.toNat).runs)) &&
  !((kpB (kdA p i) && (sAt st i).grain.toList.isEmpty) || (kpB (kdA p (sAt st i).feeds) && (sAt st (sAt st i).feeds.toNat).grain.toList.isEmpty) || (kpB (kdA p i) && kpB (kdA p (sAt st i).feeds) && !((sAt st i).grain.toList == (sAt st (sAt st i).feeds.toNat).grain.toList)))) = true
  by_cases hf : (sAt st i).feeds < 0
  · rw [if_pos hf, h1 hf]; rfl
  · rw [if_neg hf]
    obtain ⟨y, hy⟩ : ∃ y : Nat, (sAt st i).feeds = (y : Int) := ⟨(sAt st i).feeds.toNat, by omega⟩
    obtain ⟨a, b, c, d⟩ := h3 y hy
    have hfd : fedB st i (sAt st i).feeds = false := by
      cases hq : fedB st i (sAt st i).feeds with
      | false => rfl
      | true =>
        obtain ⟨k, hk, e⟩ := (fedB_iff hi _).1 hq
        exact absurd e (h2 (by omega) k hk)
    rw [hfd, hy, Int.toNat_natCast]
    simp only [Bool.and_eq_true, Bool.not_eq_true', Bool.or_eq_false_iff]
    refine ⟨⟨trivial, ?_⟩, ⟨?_, ?_⟩, ?_⟩
    · cases q1 : (sAt st i).runs with
      | false => rfl
      | true =>
        cases q2 : cvB (kdA p y) with
        | false => rfl
        | true => rw [a q1 q2]; rfl
    · cases q1 : kpB (kdA p i) with
      | false => rfl
      | true => rw [b q1]; rfl
    · cases q1 : kpB (kdA p y) with
      | false => rfl
      | true => rw [c q1]; rfl
    · cases q1 : kpB (kdA p i) with
      | false => rfl
      | true =>
        cases q2 : kpB (kdA p y) with
        | false => rfl
        | true => rw [d q1 q2]; simp
theorem StV.of {p : Pl} {st : List Sx} (h : ckState p st = 0) : StV p st := by
  obtain ⟨hok, hlen, hst, hvd⟩ := ckState_ok h
  rw [validB_iff] at hvd
  have hs : ∀ x : Nat, x < p.ms.length → stE p x (sAt st x) = 0 := fun x hx => by
    have := ckStL_ok hst x (by omega)
    rw [Nat.zero_add] at this
    rw [sAt, stGet (by omega)]; exact this
  have hv := fun (x : Nat) (hx : x < p.ms.length) => vdK_ok (p := p) (st := st) (i := x) (by omega) (hvd x (by omega))
  have hin : ∀ x y : Nat, x < p.ms.length → (sAt st x).feeds = (y : Int) → y < p.ms.length := fun x y hx hy => by
    rcases (stE_ok (hs x hx)).2.1 with h1 | h1
    · omega
    · obtain ⟨k, hk, hkn⟩ := inN_nat (hok.ins _ h1).2.1
      dsimp only at hk; omega
  refine ⟨hlen, fun x hx => (stE_ok (hs x hx)).1, fun x hx => (stE_ok (hs x hx)).2.1, fun x hx => (stE_ok (hs x hx)).2.2, fun x hx => (hv x hx).1, fun x y hx hy h0 he => ?_, fun x y hx hf => ((hv x hx).2.2 y hf).1, fun x y hx hf => ((hv x hx).2.2 y hf).2.1,
    fun x y hx hf => ((hv x hx).2.2 y hf).2.2.1, fun x y hx hf => ((hv x hx).2.2 y hf).2.2.2⟩
  rcases Nat.lt_trichotomy x y with h1 | h1 | h1
  · exact absurd he ((hv y hy).2.1 (by omega) x h1)
  · exact h1
  · exact absurd he.symm ((hv x hx).2.1 h0 y h1)
theorem StV.ck {p : Pl} {st : List Sx} (hck : ckPlant p = 0) (h : StV p st) : ckState p st = 0 := by
  unfold ckState
  have h1 : ckStL p 0 st = 0 := ckStL_zero fun i hi => by
    have hx : i < p.ms.length := by have := h.len; omega
    rw [Nat.zero_add]
    have e : st[i] = sAt st i := (stGet hi).symm
    rw [e]
    exact stE_zero (h.run i hx) (h.fd i hx) (h.gr i hx)
  have h2 : validB p st = true := (validB_iff p st).2 fun i hi => by
    have hx : i < p.ms.length := by have := h.len; omega
    exact vdK_mk (by omega) (h.nr i hx) (fun h0 k hk e => absurd (h.uq k i (by omega) hx (by omega) e) (by omega)) fun y hy => ⟨h.fl i y hx hy, h.g1 i y hx hy, h.g2 i y hx hy, h.g3 i y hx hy⟩
  rw [if_neg (by rw [hck]; simp), if_neg (by rw [h.len]; simp), if_neg (by rw [h1]; simp), if_pos h2]
structure PaV (p : Pl) (l : List Int) : Prop where
  two : 2 ≤ l.length
  at_ : ∀ k, k < l.length → ∃ x : Nat, l.getD k 0 = (x : Int) ∧ x < p.ms.length
  nd : ∀ i j, i < l.length → j < l.length → l.getD i 0 = l.getD j 0 → i = j
  arc : ∀ k, k + 1 < l.length → (⟨l.getD k 0, l.getD (k + 1) 0⟩ : Ar) ∈ p.arcs
  inner : ∀ k, 0 < k → k + 1 < l.length → cvB (kdA p (l.getD k 0)) = true
  fst : cvB (kdA p (l.getD 0 0)) = false
  lst : cvB (kdA p (l.getD (l.length - 1) 0)) = false
  pit : kpB (kdA p (l.getD 0 0)) = true → kn (kdA p (l.getD 0 0)) = 1
  spt : kpB (kdA p (l.getD (l.length - 1) 0)) = true → kn (kdA p (l.getD (l.length - 1) 0)) = 1
theorem bg_cv {s : ByteArray} (h : bgB s = true) : cvB s = false ∧ (kpB s = true → kn s = 1) := by
  unfold bgB at h
  simp only [Bool.or_eq_true, decide_eq_true_eq] at h
  unfold cvB kpB
  refine ⟨decide_eq_false (by omega), fun hk => ?_⟩
  simp only [Bool.and_eq_true, decide_eq_true_eq] at hk
  omega
theorem en_cv {s : ByteArray} (h : enB s = true) : cvB s = false ∧ (kpB s = true → kn s = 1) := by
  unfold enB at h
  simp only [Bool.or_eq_true, decide_eq_true_eq] at h
  unfold cvB kpB
  refine ⟨decide_eq_false (by omega), fun hk => ?_⟩
  simp only [Bool.and_eq_true, decide_eq_true_eq] at hk
  omega
theorem getD_mem {l : List Int} {k : Nat} (h : k < l.length) : l.getD k 0 ∈ l := by
  rw [List.getD_eq_getElem?_getD, List.getElem?_eq_getElem h]; exact List.getElem_mem h
theorem PaV.of {p : Pl} {l : List Int} (h : pathE p l = 0) : PaV p l := by
  obtain ⟨hin, hp⟩ := pathE_ok h
  obtain ⟨h1, h2, h3, h4, h5⟩ := (pathB_iff p l).1 hp
  have hk : ∀ k, k < l.length → 0 < k → (k + 1 = l.length ∨ cvB (kdA p (l.getD k 0)) = true) ∧ (⟨l.getD (k - 1) 0, l.getD k 0⟩ : Ar) ∈ p.arcs := fun k hk h0 => by
    have := h5 k hk
    unfold okK at this
    simp only [Bool.or_eq_true, Bool.and_eq_true, decide_eq_true_eq] at this
    rcases this with h | h
    · omega
    · exact h
  refine ⟨h1, fun k hk => inN_nat (hin _ (getD_mem hk)), fun i j hi hj e => ?_, fun k hk1 => ?_, fun k h0 hk1 => ?_, (bg_cv h2).1, (en_cv h3).1, (bg_cv h2).2, (en_cv h3).2⟩
  · rw [List.getD_eq_getElem?_getD, List.getElem?_eq_getElem hi, List.getD_eq_getElem?_getD, List.getElem?_eq_getElem hj] at e
    have h6 := List.pairwise_iff_getElem.1 (List.nodup_iff_pairwise_ne.1 h4)
    rcases Nat.lt_trichotomy i j with h | h | h
    · exact absurd e (h6 i j hi hj h)
    · exact h
    · exact absurd e.symm (h6 j i hj hi h)
  · have := (hk (k + 1) hk1 (by omega)).2
    rwa [Nat.add_sub_cancel] at this
  · rcases (hk k (by omega) h0).1 with h | h
    · omega
    · exact h
theorem PaV.cases {p : Pl} {l : List Int} (_ : PaV p l) (x : Nat) : (∃ k, k < l.length ∧ (l.getD k 0).toNat = x) ∨ ∀ k, k < l.length → (l.getD k 0).toNat ≠ x := by
  by_cases h : ∃ k, k < l.length ∧ (l.getD k 0).toNat = x
  · exact .inl h
  · exact .inr fun k hk e => h ⟨k, hk, e⟩
end Go.Proofs.YtahpdkkpnkhnhaaGreatDoor
/- Walks: the law PathRoutes. -/
namespace Go.Proofs.YtahpdkkpnkhnhaaGreatDoor
open Go Go.Proofs Go.RowKit Go.Shelf
theorem Box.v3 {w : World} {b : Nat} {e : TypeId} {x y z : Value} (h : Box w b e [x, y, z]) : w.cell? ⟨b, 0, none⟩ = some x ∧ w.cell? ⟨b, 1, none⟩ = some y ∧ w.cell? ⟨b, 2, none⟩ = some z ∧ (∀ o, w.frozen? ⟨b, o, none⟩ = false) ∧ b < w.heap.size :=
  ⟨h.cell 0, h.cell 1, h.cell 2, h.frozen, h.lt⟩
theorem RtPost.sl {w : World} {L : List Int} {c : Int} {e : Ending} {w' : World} (h : RtPost w L c e w') (hl : L.length ≤ 1000000000) : ∃ v, e = .returned (.tuple #[v, .int .i64 c]) ∧ Sl encI 1 w' w'.heap.size v L ∧ Below w.heap.size w w' := by
  obtain ⟨v, rfl, ho, hb⟩ := h
  exact ⟨v, rfl, ho.toSl encI_len hl, hb⟩
end Go.Proofs.YtahpdkkpnkhnhaaGreatDoor
/- Plain: lists of paths; what CheckDisjoint says. -/
namespace Go.Proofs.YtahpdkkpnkhnhaaGreatDoor
open Go Go.Proofs Go.RowKit Go.Shelf
structure Pt where
  a : Option Addr
  c : Nat
  l : List Int
def Pt.enc (t : Pt) : List Value := [.slice t.a t.l.length t.c]
theorem Pt.enc_len (t : Pt) : t.enc.length = 1 := rfl
structure PtR (w : World) (B : Nat) (v : Value) (L : List Pt) : Prop where
  sl : Sl Pt.enc 1 w B v L
  rd : ∀ t ∈ L, Sl encI 1 w B (.slice t.a t.l.length t.c) t.l
theorem PtR.later {w w' : World} {v : Value} {L : List Pt} (h : PtR w w.heap.size v L) (hb : Below w.heap.size w w') : PtR w' w'.heap.size v L :=
  ⟨h.sl.later hb, fun t ht => (h.rd t ht).later hb⟩
end Go.Proofs.YtahpdkkpnkhnhaaGreatDoor
/- Lists of lists that a call has made. -/
namespace Go.Proofs.YtahpdkkpnkhnhaaGreatDoor
open Go Go.Proofs Go.RowKit Go.Shelf
structure Hdp where
  a : Option Addr
  n : Nat
  c : Nat
def Hdp.v (h : Hdp) : Value := .slice h.a h.n h.c
def Hdp.enc (h : Hdp) : List Value := [h.v]
theorem Hdp.enc_len (h : Hdp) : h.enc.length = 1 := rfl
theorem Hdp.enc_one (h : Hdp) : ∀ u ∈ h.enc, u.oneCell' = true := by intro u hu; simp [Hdp.enc] at hu; subst hu; rfl
def LLP (w : World) (base bi : Nat) (v : Value) (LL : List (List Int)) : Prop :=
  ∃ HH : List Hdp, Own Hdp.enc 1 26 w base v HH ∧ HH.length = LL.length ∧ ∀ i (h : i < HH.length) (h2 : i < LL.length), Own encI 1 3 w bi HH[i].v LL[i]
theorem LLP.later {w w' : World} {base bi : Nat} {v : Value} {LL : List (List Int)} (h : LLP w base bi v LL) (hb : Below w.heap.size w w') : LLP w' base bi v LL := by
  obtain ⟨HH, h1, h2, h3⟩ := h
  exact ⟨HH, h1.later hb, h2, fun i k1 k2 => (h3 i k1 k2).later hb⟩
theorem LLP.nil (w : World) (base bi : Nat) : LLP w base bi (.slice none 0 0) [] := ⟨[], Own.nil _ _ _ _ _, rfl, fun i h => absurd h (by simp)⟩
theorem LLP.push {w w' : World} {base bi : Nat} {v v' : Value} {LL : List (List Int)} {HH : List Hdp} {h : Hdp} {l : List Int} (h2 : HH.length = LL.length) (h3 : ∀ i (h : i < HH.length) (h2 : i < LL.length), Own encI 1 3 w bi HH[i].v LL[i])
    (hl : Own encI 1 3 w bi h.v l) (hv : Own Hdp.enc 1 26 w base v HH) (ho : Own Hdp.enc 1 26 w' base v' (HH ++ [h])) (hg : w.grownBy w' v.ownBlock) : LLP w' base bi v' (LL ++ [l]) := by
  refine ⟨HH ++ [h], ho, by simp [h2], fun i k1 k2 => ?_⟩
  have kept : ∀ (q : Value) (l : List Int), Own encI 1 3 w bi q l → Own encI 1 3 w' bi q l := by
    intro q l hq
    refine hq.kept hg ?_
    rcases hqo : q.ownBlock with _ | k
    · exact .inl rfl
    · exact .inr fun e => hq.two_types hv (by decide) k hqo e.symm
  by_cases hi : i < HH.length
  · have e1 : (HH ++ [h])[i] = HH[i] := List.getElem_append_left hi
    have e2 : (LL ++ [l])[i] = LL[i]'(by omega) := List.getElem_append_left (by omega)
    rw [e1, e2]
    exact kept _ _ (h3 i hi (by omega))
  · simp at k1 k2
    have hi2 : i = HH.length := by omega
    subst hi2
    have e1 : (HH ++ [h])[HH.length]'(by simp) = h := by simp
    have e2 : (LL ++ [l])[HH.length]'(by simp; omega) = l := by simp [h2]
    rw [e1, e2]
    exact kept _ _ hl
theorem LLP.lower {w : World} {base base' bi bi' : Nat} {v : Value} {LL : List (List Int)} (h : LLP w base bi v LL) (h1 : base' ≤ base) (h2 : bi' ≤ bi) : LLP w base' bi' v LL := by
  obtain ⟨HH, k1, k2, k3⟩ := h
  exact ⟨HH, k1.lower h1, k2, fun i q1 q2 => (k3 i q1 q2).lower h2⟩
theorem nx_mid {wr wA wB : World} {v1' : Value} {LJ : List Int} {cur : Int} (oA : Own encI 1 3 wA wr.heap.size v1' LJ) (gA : (wr.alloc (.cells #[] 3)).grownBy wA (some wr.heap.size)) (gB : (wA.alloc (.cells #[.int .i64 cur] 3)).grownBy wB v1'.ownBlock) :
    Below wr.heap.size wr wA ∧ Below wr.heap.size wr wB := by
  have h1 : Below wr.heap.size wr wA := ((Below.refl wr.heap.size wr).alloc (Nat.le_refl _) (.cells #[] 3)).grown gA (by simp) (fun k hk => by have : wr.heap.size = k := Option.some.inj hk; omega)
  have h2 := h1.alloc h1.size (.cells #[.int .i64 cur] 3)
  exact ⟨h1, h2.grown gB h2.size (fun k hk => oA.lt' k hk)⟩
end Go.Proofs.YtahpdkkpnkhnhaaGreatDoor
/- Walks: Orders of the reference. -/
namespace Go.Proofs.YtahpdkkpnkhnhaaGreatDoor
open Go Go.Proofs Go.RowKit Go.Shelf
def flatK (n : Nat) (LL : List (List Int)) (j : Nat) : List (List Int) := (LL.take j).flatMap (kidsO n)
end Go.Proofs.YtahpdkkpnkhnhaaGreatDoor
/- Plain: no schedule is shorter than the bound. -/
namespace Go.Proofs.YtahpdkkpnkhnhaaGreatDoor
open Go Go.Proofs Go.RowKit Go.Shelf
structure Spn where
  a : Int
  l : Int
def Apart (x y : Spn) : Prop := x.a + x.l ≤ y.a ∨ y.a + y.l ≤ x.a
theorem spans_fit : ∀ (n : Nat) (L : List Spn) (A B : Int), L.length ≤ n → A ≤ B → (∀ x ∈ L, A ≤ x.a ∧ x.a + x.l ≤ B ∧ 1 ≤ x.l) → L.Pairwise Apart → (L.map Spn.l).sum ≤ B - A
  | _, [], A, B, _, hAB, _, _ => by simp; omega
  | 0, x :: L, A, B, hn, _, _, _ => by simp at hn
  | n + 1, x :: L, A, B, hn, hAB, hin, hp => by
    obtain ⟨hx1, hx2, hx3⟩ := hin x (by simp)
    obtain ⟨hpx, hpL⟩ := List.pairwise_cons.1 hp
    have hl := spans_fit n (L.filter fun y => decide (y.a + y.l ≤ x.a)) A x.a (Nat.le_trans (List.length_filter_le _ _) (by simpa using hn)) hx1 (fun y hy => by
      obtain ⟨h1, h2⟩ := List.mem_filter.1 hy
      obtain ⟨h3, _, h5⟩ := hin y (by simp [h1])
      exact ⟨h3, by simpa using h2, h5⟩) (hpL.sublist List.filter_sublist)
    have hr := spans_fit n (L.filter fun y => !decide (y.a + y.l ≤ x.a)) (x.a + x.l) B (Nat.le_trans (List.length_filter_le _ _) (by simpa using hn)) (by omega) (fun y hy => by
      obtain ⟨h1, h2⟩ := List.mem_filter.1 hy
      obtain ⟨_, h4, h5⟩ := hin y (by simp [h1])
      have h6 : ¬ (y.a + y.l ≤ x.a) := by simpa using h2
      rcases hpx y h1 with h | h
      · exact ⟨h, h4, h5⟩
      · exact absurd h h6) (hpL.sublist List.filter_sublist)
    have hs : ∀ M : List Spn, (M.map Spn.l).sum = ((M.filter fun y => decide (y.a + y.l ≤ x.a)).map Spn.l).sum + ((M.filter fun y => !decide (y.a + y.l ≤ x.a)).map Spn.l).sum := by
      intro M
      induction M with
      | nil => simp
      | cons y M ih =>
        by_cases h : y.a + y.l ≤ x.a
        · simp only [List.map_cons, List.sum_cons, List.filter_cons, h, decide_true, Bool.not_true, if_true]
          rw [ih]; simp; omega
        · simp only [List.map_cons, List.sum_cons, List.filter_cons, h, decide_false, Bool.not_false, if_true]
          rw [ih]; simp; omega
    rw [List.map_cons, List.sum_cons, hs L]
    omega
def spnT (p : Pl) (m : Int) (t : Tk) (s : Int) : List Spn := match useF p t.run 0 t.path m with
  | none => []
  | some (f, l) => [⟨s + f, l⟩]
def spnsT (p : Pl) (m : Int) (ts : List Tk) (st : List Int) (n : Nat) : List Spn := (List.range n).flatMap fun k => spnT p m (ts.getD k tk0) (st.getD k 0)
theorem spnsT_succ (p : Pl) (m : Int) (ts : List Tk) (st : List Int) (n : Nat) : spnsT p m ts st (n + 1) = spnsT p m ts st n ++ spnT p m (ts.getD n tk0) (st.getD n 0) := by
  unfold spnsT; rw [List.range_succ, List.flatMap_append]; simp
structure MchK (p : Pl) (m : Int) (ts : List Tk) (st : List Int) (n : Nat) (z : Int × Int × Int) : Prop where
  sum : z.2.1 = ((spnsT p m ts st n).map Spn.l).sum
  nn : 0 ≤ z.2.1
  zero : z.2.1 = 0 → spnsT p m ts st n = []
  ok : ∀ x ∈ spnsT p m ts st n, z.1 ≤ x.a ∧ x.a + x.l + z.2.2 ≤ lenT p ts st n ∧ 1 ≤ x.l
theorem lenT_mono (p : Pl) (ts : List Tk) (st : List Int) (n : Nat) : lenT p ts st n ≤ lenT p ts st (n + 1) := by
  show _ ≤ max _ _; omega
theorem useF_val (p : Pl) (run : Int) : ∀ (l : List Int) (h m f x : Int), useF p run h l m = some (f, x) → x = run + tAt p m ∧ m ∈ l
  | [], _, _, _, _, e => by cases e
  | y :: r, h, m, f, x, e => by
    unfold useF at e
    split at e
    · rename_i h1
      cases e
      exact ⟨by rw [h1], by simp [h1]⟩
    · obtain ⟨h1, h2⟩ := useF_val p run r _ m f x e
      exact ⟨h1, by simp [h2]⟩
theorem mchK {p : Pl} (hp : OkP p) {m : Nat} (hm : m < p.ms.length) {ts : List Tk} {st : List Int} (ht : ∀ t ∈ ts, OkT p t ∧ 1 ≤ t.run) (hs : ∀ k, k < ts.length → 0 ≤ st.getD k 0) :
    ∀ n, n ≤ ts.length → MchK p m ts st n ((ts.take n).foldl (bStep p m) (-1, 0, -1))
  | 0, _ => ⟨by simp [spnsT], by simp, fun _ => by simp [spnsT], fun x hx => by simp [spnsT] at hx⟩
  | n + 1, hn => by
    have ih := mchK hp hm ht hs n (by omega)
    rw [foldl_snoc _ _ _ _ (by omega)]
    generalize (ts.take n).foldl (bStep p m) (-1, 0, -1) = z at *
    obtain ⟨a, s, b⟩ := z
    obtain ⟨h1, h2, h3, h4⟩ := ih
    dsimp only at h1 h2 h3 h4
    have hlm := lenT_mono p ts st n
    have htk := tkGet (show n < ts.length by omega)
    obtain ⟨hok, hrun⟩ := ht _ (List.getElem_mem (show n < ts.length by omega))
    have hl1 : lenT p ts st (n + 1) = max (lenT p ts st n) (st.getD n 0 + (ts.getD n tk0).run + tSum p (ts.getD n tk0).path) := rfl
    have hs0 := hs n (by omega)
    have hta := (hp.times _ (List.getElem_mem hm)).1
    rw [← tAt_nat hm] at hta
    rw [htk] at hl1
    cases hu : useF p ts[n].run 0 ts[n].path m with
    | none =>
      have e : spnsT p m ts st (n + 1) = spnsT p m ts st n := by
        rw [spnsT_succ, htk]
        unfold spnT; rw [hu]; simp
      have e2 : bStep p m (a, s, b) ts[n] = (a, s, b) := by unfold bStep; rw [hu]
      rw [e2]
      refine ⟨by rw [e]; exact h1, h2, fun h => by rw [e]; exact h3 h, fun x hx => ?_⟩
      rw [e] at hx
      obtain ⟨k1, k2, k3⟩ := h4 x hx
      exact ⟨k1, by show x.a + x.l + b ≤ _; omega, k3⟩
    | some fl =>
      obtain ⟨f, l⟩ := fl
      have e : spnsT p m ts st (n + 1) = spnsT p m ts st n ++ [⟨st.getD n 0 + f, l⟩] := by
        rw [spnsT_succ, htk]
        unfold spnT; rw [hu]
      have e2 : bStep p m (a, s, b) ts[n] = (if s = 0 ∨ f < a then f else a, s + l, if s = 0 ∨ tSum p ts[n].path - f - tAt p m < b then tSum p ts[n].path - f - tAt p m else b) := by unfold bStep; rw [hu]
      rw [e2]
      obtain ⟨hl, _⟩ := useF_val _ _ _ _ _ _ _ hu
      refine ⟨?_, by show 0 ≤ s + l; omega, fun h => by exfalso; have : s + l = 0 := h; omega, fun x hx => ?_⟩
      · rw [e, List.map_append, List.sum_append]; show s + l = _; rw [h1]; simp
      · rw [e] at hx
        dsimp only
        rcases List.mem_append.1 hx with hx | hx
        · obtain ⟨k1, k2, k3⟩ := h4 x hx
          have hne : s ≠ 0 := fun h => by rw [h3 h] at hx; cases hx
          refine ⟨?_, ?_, k3⟩
          · split <;> omega
          · split <;> omega
        · rw [List.mem_singleton] at hx
          subst hx
          dsimp only
          refine ⟨?_, ?_, by omega⟩
          · split <;> omega
          · split <;> omega
theorem useF_mem {p : Pl} {run : Int} {l : List Int} {m f x : Int} (h : useF p run 0 l m = some (f, x)) : m ∈ l := (useF_val _ _ _ _ _ _ _ h).2
theorem spn_apart {p : Pl} {a b : Tk} {s t : Int} {m : Int} (ha : a.path.Nodup) (hb : b.path.Nodup) (h : meetB p a b s t = false) : ∀ x ∈ spnT p m a s, ∀ y ∈ spnT p m b t, Apart x y := by
  intro x hx y hy
  unfold spnT at hx hy
  cases hu : useF p a.run 0 a.path m with
  | none => rw [hu] at hx; cases hx
  | some fl =>
    obtain ⟨f, l⟩ := fl
    cases hv : useF p b.run 0 b.path m with
    | none => rw [hv] at hy; cases hy
    | some gl =>
      obtain ⟨g, k⟩ := gl
      rw [hu] at hx
      rw [hv] at hy
      simp only [List.mem_singleton] at hx hy
      subst hx hy
      have hno : ¬ ∃ x ∈ barO (useF p b.run 0 b.path) (useF p a.run 0 a.path) s a.path, x.fr ≤ t ∧ t ≤ x.to := by
        rw [← hit_iff hb ha s t, h]; simp
      unfold Apart
      dsimp only
      apply Classical.byContradiction
      intro hc
      refine hno ⟨⟨s + f - g - k + 1, s + f + l - 1 - g⟩, List.mem_filterMap.2 ⟨m, useF_mem hu, ?_⟩, ?_, ?_⟩
      · unfold barK; rw [hu, hv]
      · dsimp only; omega
      · dsimp only; omega
theorem spns_apart {p : Pl} {ts : List Tk} {st : List Int} {m : Int} (hnd : ∀ t ∈ ts, t.path.Nodup) (hm : metB p ts st ts.length = false) : ∀ n, n ≤ ts.length → (spnsT p m ts st n).Pairwise Apart
  | 0, _ => by simp [spnsT]
  | n + 1, hn => by
    rw [spnsT_succ, List.pairwise_append]
    refine ⟨spns_apart hnd hm n (by omega), ?_, fun x hx y hy => ?_⟩
    · unfold spnT; split <;> simp
    · unfold spnsT at hx
      obtain ⟨k, hk, hx⟩ := List.mem_flatMap.1 hx
      have hk := List.mem_range.1 hk
      rw [tkGet (show k < ts.length by omega)] at hx
      rw [tkGet (show n < ts.length by omega)] at hy
      refine spn_apart (hnd _ (List.getElem_mem _)) (hnd _ (List.getElem_mem _)) ?_ x hx y hy
      cases hq : meetB p ts[k] ts[n] (st.getD k 0) (st.getD n 0) with
      | false => rfl
      | true =>
        have : metB p ts st ts.length = true := metB_iff.2 ⟨n, k, hn, hk, by rw [tkGet (show k < ts.length by omega), tkGet (show n < ts.length by omega)]; exact hq⟩
        rw [hm] at this; cases this
theorem bound_le {p : Pl} (hp : OkP p) {ts : List Tk} {st : List Int} (ht : ∀ t ∈ ts, OkT p t ∧ 1 ≤ t.run) (hnd : ∀ t ∈ ts, t.path.Nodup) (hs : ∀ k, k < ts.length → 0 ≤ st.getD k 0) (h0 : 0 ≤ lenT p ts st ts.length) (hm : metB p ts st ts.length = false) :
    ∀ k, k ≤ p.ms.length → boundTo p ts k ≤ lenT p ts st ts.length
  | 0, _ => h0
  | k + 1, hk => by
    have ih := bound_le hp ht hnd hs h0 hm k (by omega)
    have hz := mchK hp (show k < p.ms.length by omega) ht hs ts.length (Nat.le_refl _)
    rw [List.take_length] at hz
    show bPut (boundTo p ts k) (bMach p ts k) ≤ _
    unfold bPut bMach
    generalize ts.foldl (bStep p k) (-1, 0, -1) = z at *
    obtain ⟨h1, h2, h3, h4⟩ := hz
    split
    · rename_i hpos
      have hne : spnsT p k ts st ts.length ≠ [] := by
        intro e
        rw [e] at h1
        simp at h1
        omega
      obtain ⟨x, hx⟩ := List.exists_mem_of_ne_nil _ hne
      have hxx := h4 x hx
      have := spans_fit _ (spnsT p k ts st ts.length) z.1 (lenT p ts st ts.length - z.2.2) (Nat.le_refl _) (by omega) (fun y hy => by
        have := h4 y hy; omega) (spns_apart hnd hm _ (Nat.le_refl _))
      rw [← h1] at this
      omega
    · exact ih
end Go.Proofs.YtahpdkkpnkhnhaaGreatDoor
/- Plain: the least starts do not meet, and none can be earlier; the best order. -/
namespace Go.Proofs.YtahpdkkpnkhnhaaGreatDoor
open Go Go.Proofs Go.RowKit Go.Shelf
theorem ckTkL_all {p : Pl} : ∀ {r : List Tk}, (∀ t ∈ r, ckTk p t = 0) → ckTkL p r = 0
  | [], _ => rfl
  | t :: r, h => by
    unfold ckTkL
    rw [if_neg (by rw [h t (by simp)]; simp)]
    exact ckTkL_all fun x hx => h x (by simp [hx])
theorem ckTasks_of {p : Pl} {ts : List Tk} (h1 : ckPlant p = 0) (h2 : ts.length ≤ 16) (h3 : ∀ t ∈ ts, ckTk p t = 0) : ckTasks p ts = 0 := by
  unfold ckTasks
  rw [if_neg (by rw [h1]; simp), if_neg (by omega)]
  exact ckTkL_all h3
theorem ckTasks_pl {p : Pl} {ts : List Tk} (h : ckTasks p ts = 0) : ckPlant p = 0 := by
  unfold ckTasks at h
  split at h
  · rename_i h1; exact absurd h h1
  · rename_i h1; exact Decidable.not_not.1 h1
theorem ckTasks_sub {p : Pl} {ts us : List Tk} (h : ckTasks p ts = 0) (hl : us.length ≤ 16) (hs : ∀ t ∈ us, t ∈ ts) : ckTasks p us = 0 :=
  ckTasks_of (ckTasks_pl h) hl fun t ht => (ckTasks_ok h).2.2 t (hs t ht)
structure TsOk (p : Pl) (ts : List Tk) : Prop where
  pk : OkP p
  n : ts.length ≤ 16
  t : ∀ t ∈ ts, OkT p t
  r : ∀ t ∈ ts, 1 ≤ t.run
  d : ∀ t ∈ ts, t.path.Nodup
theorem TsOk.of {p : Pl} {ts : List Tk} (h : ckTasks p ts = 0) : TsOk p ts := by
  obtain ⟨h1, h2, h3⟩ := ckTasks_ok h
  refine ⟨h1, h2, fun t ht => (ckTk_ok (h3 t ht)).1, fun t ht => (ckTk_ok (h3 t ht)).2.2.2, fun t ht => ?_⟩
  exact ((pathB_iff p t.path).1 (ckTk_ok (h3 t ht)).2.1).2.2.2.1
theorem met_bars {p : Pl} {ts : List Tk} {outs : List Int} (hd : ∀ t ∈ ts, t.path.Nodup) {i k : Nat} (hi : i < ts.length) (hk : k < i) (s : Int) :
    meetB p (ts.getD k tk0) (ts.getD i tk0) (outs.getD k 0) s = true ↔ ∃ x ∈ barT p ts i k (outs.getD k 0), x.fr ≤ s ∧ s ≤ x.to := by
  have h1 := tkGet hi
  have h2 := tkGet (show k < ts.length by omega)
  unfold barT
  rw [h1, h2]
  exact hit_iff (hd _ (List.getElem_mem _)) (hd _ (List.getElem_mem _)) _ _
theorem sched_ck {p : Pl} {ts : List Tk} {outs : List Int} (h : TsOk p ts) (hl : outs.length = ts.length) (hs : SchedR p ts outs) : ckSch p ts outs = 0 := by
  have hb := sched_bd h.pk h.t (by omega) hs
  have h16 := h.n
  unfold ckSch
  rw [if_neg (by simp [hl]), if_neg, if_neg]
  · intro hm
    obtain ⟨i, k, hi, hk, hq⟩ := metB_iff.1 hm
    obtain ⟨x, hx, hh⟩ := (met_bars h.d hi hk _).1 hq
    exact (hs i (by omega)).free x (List.mem_flatMap.2 ⟨k, List.mem_range.2 hk, hx⟩) hh
  · intro hq
    obtain ⟨s, hs1, hs2⟩ := List.any_eq_true.1 hq
    obtain ⟨i, hi, rfl⟩ := List.mem_iff_getElem.1 hs1
    have := hb i hi
    rw [List.getD_eq_getElem?_getD, List.getElem?_eq_getElem hi, Option.getD_some] at this
    unfold badS at hs2
    simp only [Bool.or_eq_true, decide_eq_true_eq] at hs2
    omega
theorem getD_app (a : List Int) (t : Int) (k : Nat) : (a ++ [t]).getD k 0 = if k < a.length then a.getD k 0 else if k = a.length then t else 0 := by
  rw [List.getD_eq_getElem?_getD, List.getD_eq_getElem?_getD]
  split
  · rename_i h; rw [List.getElem?_append_left h]
  · rename_i h
    rw [List.getElem?_append_right (by omega)]
    split
    · rename_i h2; subst h2; simp
    · rename_i h2
      rw [List.getElem?_eq_none (by simp; omega)]; rfl
theorem getD_takeI (a : List Int) (n k : Nat) (h : k < n) : (a.take n).getD k 0 = a.getD k 0 := by
  rw [List.getD_eq_getElem?_getD, List.getD_eq_getElem?_getD, List.getElem?_take_of_lt h]
theorem getD_takeT (a : List Tk) (n k : Nat) (h : k < n) : (a.take n).getD k tk0 = a.getD k tk0 := by
  rw [List.getD_eq_getElem?_getD, List.getD_eq_getElem?_getD, List.getElem?_take_of_lt h]
theorem early_ck {p : Pl} {ts : List Tk} {outs : List Int} (h : TsOk p ts) (hl : outs.length = ts.length) (hs : SchedR p ts outs) {i : Nat} (hi : i < ts.length) {t : Int} (h0 : 0 ≤ t) (ht : t < outs.getD i 0) :
    ckSch p (ts.take (i + 1)) (outs.take i ++ [t]) = 16 := by
  have hb := sched_bd h.pk h.t (by omega) hs
  have h16 := h.n
  have hlt : (ts.take (i + 1)).length = i + 1 := by rw [List.length_take]; omega
  have hlo : (outs.take i).length = i := by rw [List.length_take]; omega
  unfold ckSch
  rw [if_neg (by simp [hlt, hlo]), if_neg, if_pos]
  · refine metB_iff.2 ?_
    obtain ⟨x, hx, hh⟩ := (hs i (by omega)).low t h0 ht
    obtain ⟨k, hk, hx⟩ := List.mem_flatMap.1 hx
    have hk := List.mem_range.1 hk
    refine ⟨i, k, by omega, hk, ?_⟩
    rw [getD_takeT _ _ _ (by omega), getD_takeT _ _ _ (by omega), getD_app, getD_app, hlo, if_pos hk, if_neg (by omega), if_pos rfl, getD_takeI _ _ _ hk]
    exact (met_bars h.d hi hk t).2 ⟨x, hx, hh⟩
  · intro hq
    obtain ⟨s, hs1, hs2⟩ := List.any_eq_true.1 hq
    unfold badS at hs2
    simp only [Bool.or_eq_true, decide_eq_true_eq] at hs2
    rcases List.mem_append.1 hs1 with h1 | h1
    · obtain ⟨j, hj, rfl⟩ := List.mem_iff_getElem.1 (List.mem_of_mem_take h1)
      have := hb j hj
      rw [List.getD_eq_getElem?_getD, List.getElem?_eq_getElem hj, Option.getD_some] at this
      omega
    · rw [List.mem_singleton] at h1
      subst h1
      have := hb i (by omega)
      omega
theorem ordT_nums (ts : List Tk) : ordT ts (numsI ts.length) = ts := by
  refine List.ext_getElem (by rw [ordT_len, numsI_len]) fun k h1 h2 => ?_
  have e : (ordT ts (numsI ts.length))[k] = ts.getD ((numsI ts.length)[k]'(by rw [numsI_len]; exact h2)).toNat tk0 := by simp only [ordT, List.getElem_map]
  rw [e, numsI_at _ _ h2, Int.toNat_natCast, tkGet h2]
theorem ord_nums (n : Nat) : OrdK n n (numsI n) := by
  refine ⟨numsI_len n, fun x hx => mem_numsI.1 hx, ?_⟩
  unfold numsI
  rw [List.nodup_iff_pairwise_ne, List.pairwise_map]
  refine (List.nodup_iff_pairwise_ne.1 List.nodup_range).imp ?_
  intro a b h e
  omega
theorem lenF_nn {p : Pl} {ts : List Tk} (h : TsOk p ts) : 0 ≤ lenF p ts ∧ lenF p ts ≤ 1010000000 := by
  have hb := sched_bd h.pk h.t (by rw [stO_len]; omega) (stO_R p ts)
  have h16 := h.n
  refine lenT_bd h.pk (fun k hk => by rw [tkGet hk]; exact h.t _ (List.getElem_mem _)) (fun k hk => ?_) ts.length (Nat.le_refl _)
  have := hb k (by rw [stO_len]; exact hk)
  omega
theorem TsOk.sub {p : Pl} {ts us : List Tk} (h : TsOk p ts) (hl : us.length ≤ 16) (hs : ∀ t ∈ us, t ∈ ts) : TsOk p us :=
  ⟨h.pk, hl, fun t ht => h.t t (hs t ht), fun t ht => h.r t (hs t ht), fun t ht => h.d t (hs t ht)⟩
theorem TsOk.ord {p : Pl} {ts : List Tk} (h : TsOk p ts) {k : Nat} {l : List Int} (hl : OrdK ts.length k l) : TsOk p (ordT ts l) :=
  h.sub (by rw [ordT_len, hl.len]; have := hl.le; have := h.n; omega) (ordT_mem hl.ins)
structure BestR (p : Pl) (ts : List Tk) (o : List Int) : Prop where
  ord : OrdK ts.length ts.length o
  low : lenF p (ordT ts o) ≤ lenF p ts
theorem best_r {p : Pl} {ts : List Tk} (h : TsOk p ts) : BestR p ts (bestO (lenO p ts) (levO ts.length ts.length)).1 := by
  have hk := bestK (lenO p ts) (levO ts.length ts.length) fun l hl => (lenF_nn (h.ord (lev_ord _ _ l hl))).1
  have hne : levO ts.length ts.length ≠ [] := by
    intro e
    have := lev_mem (ord_nums ts.length)
    rw [e] at this; cases this
  obtain ⟨h1, h2, h3⟩ := hk.some hne
  refine ⟨lev_ord _ _ _ h1, ?_⟩
  have := h3 _ (lev_mem (ord_nums ts.length))
  have e1 : lenO p ts (bestO (lenO p ts) (levO ts.length ts.length)).1 = lenF p (ordT ts (bestO (lenO p ts) (levO ts.length ts.length)).1) := rfl
  have e2 : lenO p ts (numsI ts.length) = lenF p ts := by unfold lenO; rw [ordT_nums]
  omega
def useT (p : Pl) (m : Int) (t : Tk) : Option (Int × Int × Int) := (useF p t.run 0 t.path m).map fun fl => (fl.1, fl.2, tSum p t.path - fl.1 - tAt p m)
structure BmK (U : List (Int × Int × Int)) (z : Int × Int × Int) : Prop where
  sum : z.2.1 = (U.map fun u => u.2.1).sum
  none : U = [] → z = (-1, 0, -1)
  pos : ∀ u ∈ U, 1 ≤ u.2.1
  fst : U ≠ [] → z.1 ∈ U.map (fun u => u.1) ∧ ∀ u ∈ U, z.1 ≤ u.1
  snd : U ≠ [] → z.2.2 ∈ U.map (fun u => u.2.2) ∧ ∀ u ∈ U, z.2.2 ≤ u.2.2
theorem sum_pos : ∀ {U : List (Int × Int × Int)}, (∀ u ∈ U, 1 ≤ u.2.1) → 0 ≤ (U.map fun u => u.2.1).sum ∧ (U ≠ [] → 1 ≤ (U.map fun u => u.2.1).sum)
  | [], _ => ⟨by simp, fun h => absurd rfl h⟩
  | u :: U, h => by
    have h1 := h u (by simp)
    have h2 := (sum_pos (U := U) fun x hx => h x (by simp [hx])).1
    simp only [List.map_cons, List.sum_cons]
    exact ⟨by omega, fun _ => by omega⟩
theorem perm_sum {a b : List Int} (h : a.Perm b) : a.sum = b.sum := by
  induction h with
  | nil => rfl
  | cons x _ ih => rw [List.sum_cons, List.sum_cons, ih]
  | swap x y l => simp only [List.sum_cons]; omega
  | trans _ _ h1 h2 => exact h1.trans h2
theorem BmK.unique {U V : List (Int × Int × Int)} {z y : Int × Int × Int} (h : BmK U z) (h' : BmK V y) (hp : U.Perm V) : z = y := by
  by_cases hU : U = []
  · subst hU
    have := hp.symm.eq_nil
    subst this
    rw [h.none rfl, h'.none rfl]
  · have hV : V ≠ [] := fun e => hU (by subst e; exact hp.eq_nil)
    obtain ⟨a1, a2⟩ := h.fst hU
    obtain ⟨b1, b2⟩ := h.snd hU
    obtain ⟨c1, c2⟩ := h'.fst hV
    obtain ⟨d1, d2⟩ := h'.snd hV
    obtain ⟨u1, hu1, e1⟩ := List.mem_map.1 a1
    obtain ⟨u2, hu2, e2⟩ := List.mem_map.1 b1
    obtain ⟨v1, hv1, f1⟩ := List.mem_map.1 c1
    obtain ⟨v2, hv2, f2⟩ := List.mem_map.1 d1
    have k1 := a2 v1 (hp.mem_iff.2 hv1)
    have k2 := b2 v2 (hp.mem_iff.2 hv2)
    have k3 := c2 u1 (hp.mem_iff.1 hu1)
    have k4 := d2 u2 (hp.mem_iff.1 hu2)
    have hs : (U.map fun u => u.2.1).sum = (V.map fun u => u.2.1).sum := perm_sum (hp.map _)
    have h5 := h.sum
    have h6 := h'.sum
    obtain ⟨z1, z2, z3⟩ := z
    obtain ⟨y1, y2, y3⟩ := y
    dsimp only at *
    obtain rfl : z1 = y1 := by omega
    obtain rfl : z2 = y2 := by omega
    obtain rfl : z3 = y3 := by omega
    rfl
theorem bmK {p : Pl} (hp : OkP p) {m : Nat} (hm : m < p.ms.length) (ts : List Tk) (hr : ∀ t ∈ ts, 1 ≤ t.run) : BmK (ts.filterMap (useT p m)) (bMach p ts m) := by
  have key : ∀ n, n ≤ ts.length → BmK ((ts.take n).filterMap (useT p m)) ((ts.take n).foldl (bStep p m) (-1, 0, -1)) := by
    intro n
    induction n with
    | zero => intro _; exact ⟨by simp, fun _ => by simp, by simp, by simp, by simp⟩
    | succ n ih =>
      intro hn
      have ih := ih (by omega)
      rw [foldl_snoc _ _ _ _ (by omega), take_snoc _ _ (by omega), List.filterMap_append]
      generalize (ts.take n).filterMap (useT p m) = U at *
      generalize (ts.take n).foldl (bStep p m) (-1, 0, -1) = z at *
      have hrun := hr _ (List.getElem_mem (show n < ts.length by omega))
      have hta := (hp.times _ (List.getElem_mem hm)).1
      rw [← tAt_nat hm] at hta
      cases hu : useF p ts[n].run 0 ts[n].path m with
      | none =>
        have e1 : bStep p m z ts[n] = z := by unfold bStep; rw [hu]
        have e2 : [ts[n]].filterMap (useT p m) = [] := by simp [useT, hu]
        rw [e1, e2, List.append_nil]; exact ih
      | some fl =>
        obtain ⟨f, l⟩ := fl
        obtain ⟨hl, _⟩ := useF_val _ _ _ _ _ _ _ hu
        obtain ⟨a, s, b⟩ := z
        have e1 : bStep p m (a, s, b) ts[n] = (if s = 0 ∨ f < a then f else a, s + l, if s = 0 ∨ tSum p ts[n].path - f - tAt p m < b then tSum p ts[n].path - f - tAt p m else b) := by unfold bStep; rw [hu]
        have e2 : [ts[n]].filterMap (useT p m) = [(f, l, tSum p ts[n].path - f - tAt p m)] := by simp [useT, hu]
        rw [e1, e2]
        generalize tSum p ts[n].path - f - tAt p m = r at *
        have hsp := sum_pos ih.pos
        have hsum := ih.sum
        dsimp only at hsum
        have hpos : ∀ u ∈ U ++ [(f, l, r)], 1 ≤ u.2.1 := fun u hu => by
          rcases List.mem_append.1 hu with h | h
          · exact ih.pos u h
          · rw [List.mem_singleton] at h; subst h; dsimp only; omega
        refine ⟨by simp [hsum], fun h => by simp at h, hpos, fun _ => ?_, fun _ => ?_⟩
        · dsimp only
          by_cases hU : U = []
          · subst hU
            rw [if_pos (.inl (by rw [hsum]; simp))]
            exact ⟨by simp, fun u hu => by simp at hu; subst hu; exact Int.le_refl _⟩
          · obtain ⟨k1, k2⟩ := ih.fst hU
            have := hsp.2 hU
            by_cases hc : f < a
            · rw [if_pos (.inr hc)]
              refine ⟨by simp, fun u hu => ?_⟩
              rcases List.mem_append.1 hu with h | h
              · have := k2 u h; dsimp only at this; omega
              · rw [List.mem_singleton] at h; subst h; exact Int.le_refl _
            · rw [if_neg (by omega)]
              refine ⟨by rw [List.map_append]; exact List.mem_append_left _ k1, fun u hu => ?_⟩
              rcases List.mem_append.1 hu with h | h
              · exact k2 u h
              · rw [List.mem_singleton] at h; subst h; dsimp only; omega
        · dsimp only
          by_cases hU : U = []
          · subst hU
            rw [if_pos (.inl (by rw [hsum]; simp))]
            exact ⟨by simp, fun u hu => by simp at hu; subst hu; exact Int.le_refl _⟩
          · obtain ⟨k1, k2⟩ := ih.snd hU
            have := hsp.2 hU
            by_cases hc : r < b
            · rw [if_pos (.inr hc)]
              refine ⟨by simp, fun u hu => ?_⟩
              rcases List.mem_append.1 hu with h | h
              · have := k2 u h; dsimp only at this; omega
              · rw [List.mem_singleton] at h; subst h; exact Int.le_refl _
            · rw [if_neg (by omega)]
              refine ⟨by rw [List.map_append]; exact List.mem_append_left _ k1, fun u hu => ?_⟩
              rcases List.mem_append.1 hu with h | h
              · exact k2 u h
              · rw [List.mem_singleton] at h; subst h; dsimp only; omega
  have := key ts.length (Nat.le_refl _)
  rw [List.take_length] at this
  exact this
theorem ord_perm {n : Nat} {o : List Int} (h : OrdK n n o) : o.Perm (numsI n) := by
  refine (List.perm_ext_iff_of_nodup h.nd (ord_nums n).nd).2 fun a => ⟨fun ha => mem_numsI.2 (h.ins a ha), fun ha => ?_⟩
  apply Classical.byContradiction
  intro hc
  have h1 := (h.snoc (mem_numsI.1 ha) hc).le
  omega
theorem bound_perm {p : Pl} {ts us : List Tk} (h : TsOk p ts) (hp : us.Perm ts) : ∀ k, k ≤ p.ms.length → boundTo p us k = boundTo p ts k
  | 0, _ => rfl
  | k + 1, hk => by
    have ih := bound_perm h hp k (by omega)
    have h1 := bmK h.pk (show k < p.ms.length by omega) ts h.r
    have h2 := bmK h.pk (show k < p.ms.length by omega) us fun t ht => h.r t (hp.mem_iff.1 ht)
    show bPut _ _ = bPut _ _
    rw [ih, h2.unique h1 (hp.filterMap _)]
theorem best_bound {p : Pl} {ts : List Tk} (h : TsOk p ts) {o : List Int} (ho : OrdK ts.length ts.length o) : boundTo p ts p.ms.length ≤ lenF p (ordT ts o) := by
  have hp : (ordT ts o).Perm ts := by
    have := (ord_perm ho).map fun k : Int => ts.getD k.toNat tk0
    have e := ordT_nums ts
    unfold ordT at e ⊢
    rw [e] at this
    exact this
  have h2 := h.ord ho
  have hb := sched_bd h2.pk h2.t (by rw [stO_len]; omega) (stO_R p (ordT ts o))
  have hck := sched_ck h2 (stO_len p _) (stO_R p _)
  have hm : metB p (ordT ts o) (stO p (ordT ts o)) (ordT ts o).length = false := by
    cases hq : metB p (ordT ts o) (stO p (ordT ts o)) (ordT ts o).length with
    | false => rfl
    | true =>
      exfalso
      unfold ckSch at hck
      rw [hq] at hck
      split at hck
      · cases hck
      · split at hck <;> simp at hck
  rw [← bound_perm h hp _ (Nat.le_refl _)]
  exact bound_le h2.pk (fun t ht => ⟨h2.t t ht, h2.r t ht⟩) h2.d (fun k hk => (hb k (by rw [stO_len]; exact hk)).1) (lenF_nn h2).1 hm _ (Nat.le_refl _)
end Go.Proofs.YtahpdkkpnkhnhaaGreatDoor
/- Walks: Best of the reference. -/
namespace Go.Proofs.YtahpdkkpnkhnhaaGreatDoor
open Go Go.Proofs Go.RowKit Go.Shelf
theorem stO_bd {p : Pl} {ts : List Tk} (h : TsOk p ts) : ∀ k, k < ts.length → 0 ≤ (stO p ts).getD k 0 ∧ (stO p ts).getD k 0 ≤ 1000000000 := fun k hk => by
  have hb := sched_bd h.pk h.t (by rw [stO_len]; omega) (stO_R p ts) k (by rw [stO_len]; exact hk)
  have := h.n
  omega
end Go.Proofs.YtahpdkkpnkhnhaaGreatDoor
