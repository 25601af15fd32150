/- Lemmas on the way to the law PathBests (part 7): Pb Na Pd Te Ud Uf -/
import Derived.Test.YtahpdkkpnkhnhaaGreatDoorPathBestsP06
import Derived.Test.YtahpdkkpnkhnhaaGreatDoorLib29
import Derived.Test.YtahpdkkpnkhnhaaGreatDoorPathBestsP01
import Derived.Test.YtahpdkkpnkhnhaaGreatDoorPathBestsP03
import Derived.Test.YtahpdkkpnkhnhaaGreatDoorLib24
import Derived.Laws.AppendOwnNone
import Derived.RegionTactic
import Derived.BigRegion
import Derived.Test.YtahpdkkpnkhnhaaGreatDoorPathBestsP04
set_option linter.unusedVariables false
set_option linter.unusedSimpArgs false

/- Walks: Shortest of the reference. -/
namespace Go.Proofs.YtahpdkkpnkhnhaaGreatDoor
open Go Go.Proofs Go.RowKit Go.Shelf
structure BfM (W1 wr : World) (n : Nat) (p : Pl) (bl : List Int) (to fr : Int) (T : List Int) : Prop where
  o : Own encI 1 3 wr W1.heap.size (.slice (some ⟨W1.heap.size, 0, none⟩) n n) T
  b : BfR p bl to fr T
  l : T.length = n
  w : Below W1.heap.size W1 wr
theorem BfM.cell {W1 wr : World} {n : Nat} {p : Pl} {bl : List Int} {to fr : Int} {T : List Int} (h : BfM W1 wr n p bl to fr T) {x : Nat} (hx : x < n) : wr.cell? ⟨W1.heap.size, x, none⟩ = some (.int .i64 (T.getD x 0)) := by
  have h1 := (h.o.atN h.l encI_len x (by rw [h.l]; exact hx)).c1
  rw [Nat.mul_one] at h1
  rw [h1, List.getD_eq_getElem?_getD, List.getElem?_eq_getElem (by rw [h.l]; exact hx)]
  rfl
theorem BfM.drew {W1 wr : World} {n : Nat} {p : Pl} {bl : List Int} {to fr : Int} {T : List Int} (h : BfM W1 wr n p bl to fr T) (q : Nat) : BfM W1 (wr.drewN q) n p bl to fr T := ⟨h.o.drewN q, h.b, h.l, below_drewN h.w q⟩
end Go.Proofs.YtahpdkkpnkhnhaaGreatDoor
/- Plain: what the commands make of a valid state. -/
namespace Go.Proofs.YtahpdkkpnkhnhaaGreatDoor
open Go Go.Proofs Go.RowKit Go.Shelf
abbrev sAt (st : List Sx) (x : Nat) : Sx := st.getD x s0
structure StV (p : Pl) (st : List Sx) : Prop where
  len : st.length = p.ms.length
  run : ∀ x : Nat, x < p.ms.length → (sAt st x).runs = true → cvB (kdA p x) = true
  fd : ∀ x : Nat, x < p.ms.length → (sAt st x).feeds = -1 ∨ (⟨x, (sAt st x).feeds⟩ : Ar) ∈ p.arcs
  gr : ∀ x : Nat, x < p.ms.length → (sAt st x).grain.toList.isEmpty = false → isName (sAt st x).grain = true ∧ kpB (kdA p x) = true
  nr : ∀ x : Nat, x < p.ms.length → (sAt st x).feeds < 0 → (sAt st x).runs = false
  uq : ∀ x y : Nat, x < p.ms.length → y < p.ms.length → 0 ≤ (sAt st x).feeds → (sAt st x).feeds = (sAt st y).feeds → x = y
  fl : ∀ x y : Nat, x < p.ms.length → (sAt st x).feeds = (y : Int) → (sAt st x).runs = true → cvB (kdA p y) = true → (sAt st y).runs = true
  g1 : ∀ x y : Nat, x < p.ms.length → (sAt st x).feeds = (y : Int) → kpB (kdA p x) = true → (sAt st x).grain.toList.isEmpty = false
  g2 : ∀ x y : Nat, x < p.ms.length → (sAt st x).feeds = (y : Int) → kpB (kdA p y) = true → (sAt st y).grain.toList.isEmpty = false
  g3 : ∀ x y : Nat, x < p.ms.length → (sAt st x).feeds = (y : Int) → kpB (kdA p x) = true → kpB (kdA p y) = true → (sAt st x).grain.toList = (sAt st y).grain.toList
theorem fedB_iff {st : List Sx} {i : Nat} (hi : i ≤ st.length) (x : Int) : fedB st i x = true ↔ ∃ k, k < i ∧ (sAt st k).feeds = x := by
  unfold fedB
  rw [List.any_eq_true]
  constructor
  · rintro ⟨s, hs, he⟩
    obtain ⟨k, hk, rfl⟩ := List.mem_iff_getElem.1 hs
    rw [List.length_take] at hk
    refine ⟨k, by omega, ?_⟩
    rw [List.getElem_take] at he
    rw [sAt, stGet (by omega)]
    exact eq_of_beq he
  · rintro ⟨k, hk, he⟩
    refine ⟨st[k]'(by omega), ?_, ?_⟩
    · rw [List.mem_iff_getElem]
      exact ⟨k, by rw [List.length_take]; omega, List.getElem_take⟩
    · rw [sAt, stGet (by omega)] at he
      exact beq_iff_eq.2 he
theorem stE_zero {p : Pl} {m : Nat} {s : Sx} (h1 : s.runs = true → cvB (kdA p m) = true) (h2 : s.feeds = -1 ∨ (⟨m, s.feeds⟩ : Ar) ∈ p.arcs) (h3 : s.grain.toList.isEmpty = false → isName s.grain = true ∧ kpB (kdA p m) = true) : stE p m s = 0 := by
  unfold stE
  rw [if_neg, if_neg, if_neg, if_neg]
  · rintro ⟨a, b⟩; rw [(h3 a).2] at b; cases b
  · rintro ⟨a, b⟩; rw [(h3 a).1] at b; cases b
  · rintro ⟨a, b⟩
    rcases h2 with h | h
    · exact a h
    · exact absurd h (of_decide_eq_false b)
  · intro h
    simp only [Bool.and_eq_true, Bool.not_eq_true'] at h
    rw [h1 h.1] at h; cases h.2
theorem ckStL_zero {p : Pl} : ∀ {r : List Sx} {k : Nat}, (∀ i (h : i < r.length), stE p (k + i) r[i] = 0) → ckStL p k r = 0
  | [], _, _ => rfl
  | a :: r, k, h => by
    unfold ckStL
    have h0 := h 0 (by simp)
    simp only [Nat.add_zero, List.getElem_cons_zero] at h0
    rw [if_neg (by rw [h0]; simp)]
    refine ckStL_zero fun i hi => ?_
    have := h (i + 1) (by simpa using hi)
    simpa [Nat.add_assoc, Nat.add_comm 1 i] using this
theorem vdK_ok {p : Pl} {st : List Sx} {i : Nat} (hi : i ≤ st.length) (h : vdK p st i = true) :
    ((sAt st i).feeds < 0 → (sAt st i).runs = false) ∧ (0 ≤ (sAt st i).feeds → (∀ k, k < i → (sAt st k).feeds ≠ (sAt st i).feeds)) ∧
      ∀ y : Nat, (sAt st i).feeds = (y : Int) → ((sAt st i).runs = true → cvB (kdA p y) = true → (sAt st y).runs = true) ∧ (kpB (kdA p i) = true → (sAt st i).grain.toList.isEmpty = false) ∧ (kpB (kdA p y) = true → (sAt st y).grain.toList.isEmpty = false) ∧
        (kpB (kdA p i) = true → kpB (kdA p y) = true → (sAt st i).grain.toList = (sAt st y).grain.toList) := by
  unfold vdK at h
  change (if (sAt st i).feeds < 0 then !(sAt st i).runs else
  !(fedB st i (sAt st i).feeds || ((sAt st i).runs && cvB (kdA p (sAt st i).feeds) && !(sAt st (sAt st i).feeds.toNat).runs)) &&
  !((kpB (kdA p i) && (sAt st i).grain.toList.isEmpty) || (kpB (kdA p (sAt st i).feeds) && (sAt st (sAt st i).feeds.toNat).grain.toList.isEmpty) || (kpB (kdA p i) && kpB (kdA p (sAt st i).feeds) && !((sAt st i).grain.toList == (sAt st (sAt st i).feeds.toNat).grain.toList)))) = true at h
  by_cases hf : (sAt st i).feeds < 0
  · rw [if_pos hf] at h
    refine ⟨fun _ => by simpa using h, fun h0 => by omega, fun y hy => by omega⟩
  · rw [if_neg hf] at h
    simp only [Bool.and_eq_true, Bool.not_eq_true', Bool.or_eq_false_iff] at h
    obtain ⟨⟨h1, h2⟩, ⟨h3, h4⟩, h5⟩ := h
    refine ⟨fun h0 => absurd h0 hf, fun _ k hk e => ?_, fun y hy => ?_⟩
    · have := (fedB_iff hi (sAt st i).feeds).2 ⟨k, hk, e⟩
      rw [h1] at this; cases this
    · rw [hy, Int.toNat_natCast] at h2 h4 h5
      refine ⟨fun a b => ?_, fun a => ?_, fun a => ?_, fun a b => ?_⟩
      · rw [a, b] at h2; simpa using h2
      · rw [a] at h3; simpa using h3
      · rw [a] at h4; simpa using h4
      · rw [a, b] at h5; simpa using h5
theorem vdK_mk {p : Pl} {st : List Sx} {i : Nat} (hi : i ≤ st.length) (h1 : (sAt st i).feeds < 0 → (sAt st i).runs = false) (h2 : 0 ≤ (sAt st i).feeds → (∀ k, k < i → (sAt st k).feeds ≠ (sAt st i).feeds))
    (h3 : ∀ y : Nat, (sAt st i).feeds = (y : Int) → ((sAt st i).runs = true → cvB (kdA p y) = true → (sAt st y).runs = true) ∧ (kpB (kdA p i) = true → (sAt st i).grain.toList.isEmpty = false) ∧ (kpB (kdA p y) = true → (sAt st y).grain.toList.isEmpty = false) ∧
        (kpB (kdA p i) = true → kpB (kdA p y) = true → (sAt st i).grain.toList = (sAt st y).grain.toList)) : vdK p st i = true := by
  unfold vdK
  change (if (sAt st i).feeds < 0 then !(sAt st i).runs else
  !(fedB st i (sAt st i).feeds || ((sAt st i).runs && cvB (kdA p (sAt st i).feeds) && !(sAt st (sAt st i).feeds.toNat).runs)) &&
  !((kpB (kdA p i) && (sAt st i).grain.toList.isEmpty) || (kpB (kdA p (sAt st i).feeds) && (sAt st (sAt st i).feeds.toNat).grain.toList.isEmpty) || (kpB (kdA p i) && kpB (kdA p (sAt st i).feeds) && !((sAt st i).grain.toList == (sAt st (sAt st i).feeds.toNat).grain.toList)))) = true
  by_cases hf : (sAt st i).feeds < 0
  · rw [if_pos hf, h1 hf]; rfl
  · rw [if_neg hf]
    obtain ⟨y, hy⟩ : ∃ y : Nat, (sAt st i).feeds = (y : Int) := ⟨(sAt st i).feeds.toNat, by omega⟩
    obtain ⟨a, b, c, d⟩ := h3 y hy
    have hfd : fedB st i (sAt st i).feeds = false := by
      cases hq : fedB st i (sAt st i).feeds with
      | false => rfl
      | true =>
        obtain ⟨k, hk, e⟩ := (fedB_iff hi _).1 hq
        exact absurd e (h2 (by omega) k hk)
    rw [hfd, hy, Int.toNat_natCast]
    simp only [Bool.and_eq_true, Bool.not_eq_true', Bool.or_eq_false_iff]
    refine ⟨⟨trivial, ?_⟩, ⟨?_, ?_⟩, ?_⟩
    · cases q1 : (sAt st i).runs with
      | false => rfl
      | true =>
        cases q2 : cvB (kdA p y) with
        | false => rfl
        | true => rw [a q1 q2]; rfl
    · cases q1 : kpB (kdA p i) with
      | false => rfl
      | true => rw [b q1]; rfl
    · cases q1 : kpB (kdA p y) with
      | false => rfl
      | true => rw [c q1]; rfl
    · cases q1 : kpB (kdA p i) with
      | false => rfl
      | true =>
        cases q2 : kpB (kdA p y) with
        | false => rfl
        | true => rw [d q1 q2]; simp
theorem StV.of {p : Pl} {st : List Sx} (h : ckState p st = 0) : StV p st := by
  obtain ⟨hok, hlen, hst, hvd⟩ := ckState_ok h
  rw [validB_iff] at hvd
  have hs : ∀ x : Nat, x < p.ms.length → stE p x (sAt st x) = 0 := fun x hx => by
    have := ckStL_ok hst x (by omega)
    rw [Nat.zero_add] at this
    rw [sAt, stGet (by omega)]; exact this
  have hv := fun (x : Nat) (hx : x < p.ms.length) => vdK_ok (p := p) (st := st) (i := x) (by omega) (hvd x (by omega))
  have hin : ∀ x y : Nat, x < p.ms.length → (sAt st x).feeds = (y : Int) → y < p.ms.length := fun x y hx hy => by
    rcases (stE_ok (hs x hx)).2.1 with h1 | h1
    · omega
    · obtain ⟨k, hk, hkn⟩ := inN_nat (hok.ins _ h1).2.1
      dsimp only at hk; omega
  refine ⟨hlen, fun x hx => (stE_ok (hs x hx)).1, fun x hx => (stE_ok (hs x hx)).2.1, fun x hx => (stE_ok (hs x hx)).2.2, fun x hx => (hv x hx).1, fun x y hx hy h0 he => ?_, fun x y hx hf => ((hv x hx).2.2 y hf).1, fun x y hx hf => ((hv x hx).2.2 y hf).2.1,
    fun x y hx hf => ((hv x hx).2.2 y hf).2.2.1, fun x y hx hf => ((hv x hx).2.2 y hf).2.2.2⟩
  rcases Nat.lt_trichotomy x y with h1 | h1 | h1
  · exact absurd he ((hv y hy).2.1 (by omega) x h1)
  · exact h1
  · exact absurd he.symm ((hv x hx).2.1 h0 y h1)
theorem StV.ck {p : Pl} {st : List Sx} (hck : ckPlant p = 0) (h : StV p st) : ckState p st = 0 := by
  unfold ckState
  have h1 : ckStL p 0 st = 0 := ckStL_zero fun i hi => by
    have hx : i < p.ms.length := by have := h.len; omega
    rw [Nat.zero_add]
    have e : st[i] = sAt st i := (stGet hi).symm
    rw [e]
    exact stE_zero (h.run i hx) (h.fd i hx) (h.gr i hx)
  have h2 : validB p st = true := (validB_iff p st).2 fun i hi => by
    have hx : i < p.ms.length := by have := h.len; omega
    exact vdK_mk (by omega) (h.nr i hx) (fun h0 k hk e => absurd (h.uq k i (by omega) hx (by omega) e) (by omega)) fun y hy => ⟨h.fl i y hx hy, h.g1 i y hx hy, h.g2 i y hx hy, h.g3 i y hx hy⟩
  rw [if_neg (by rw [hck]; simp), if_neg (by rw [h.len]; simp), if_neg (by rw [h1]; simp), if_pos h2]
structure PaV (p : Pl) (l : List Int) : Prop where
  two : 2 ≤ l.length
  at_ : ∀ k, k < l.length → ∃ x : Nat, l.getD k 0 = (x : Int) ∧ x < p.ms.length
  nd : ∀ i j, i < l.length → j < l.length → l.getD i 0 = l.getD j 0 → i = j
  arc : ∀ k, k + 1 < l.length → (⟨l.getD k 0, l.getD (k + 1) 0⟩ : Ar) ∈ p.arcs
  inner : ∀ k, 0 < k → k + 1 < l.length → cvB (kdA p (l.getD k 0)) = true
  fst : cvB (kdA p (l.getD 0 0)) = false
  lst : cvB (kdA p (l.getD (l.length - 1) 0)) = false
  pit : kpB (kdA p (l.getD 0 0)) = true → kn (kdA p (l.getD 0 0)) = 1
  spt : kpB (kdA p (l.getD (l.length - 1) 0)) = true → kn (kdA p (l.getD (l.length - 1) 0)) = 1
theorem bg_cv {s : ByteArray} (h : bgB s = true) : cvB s = false ∧ (kpB s = true → kn s = 1) := by
  unfold bgB at h
  simp only [Bool.or_eq_true, decide_eq_true_eq] at h
  unfold cvB kpB
  refine ⟨decide_eq_false (by omega), fun hk => ?_⟩
  simp only [Bool.and_eq_true, decide_eq_true_eq] at hk
  omega
theorem en_cv {s : ByteArray} (h : enB s = true) : cvB s = false ∧ (kpB s = true → kn s = 1) := by
  unfold enB at h
  simp only [Bool.or_eq_true, decide_eq_true_eq] at h
  unfold cvB kpB
  refine ⟨decide_eq_false (by omega), fun hk => ?_⟩
  simp only [Bool.and_eq_true, decide_eq_true_eq] at hk
  omega
theorem getD_mem {l : List Int} {k : Nat} (h : k < l.length) : l.getD k 0 ∈ l := by
  rw [List.getD_eq_getElem?_getD, List.getElem?_eq_getElem h]; exact List.getElem_mem h
theorem PaV.of {p : Pl} {l : List Int} (h : pathE p l = 0) : PaV p l := by
  obtain ⟨hin, hp⟩ := pathE_ok h
  obtain ⟨h1, h2, h3, h4, h5⟩ := (pathB_iff p l).1 hp
  have hk : ∀ k, k < l.length → 0 < k → (k + 1 = l.length ∨ cvB (kdA p (l.getD k 0)) = true) ∧ (⟨l.getD (k - 1) 0, l.getD k 0⟩ : Ar) ∈ p.arcs := fun k hk h0 => by
    have := h5 k hk
    unfold okK at this
    simp only [Bool.or_eq_true, Bool.and_eq_true, decide_eq_true_eq] at this
    rcases this with h | h
    · omega
    · exact h
  refine ⟨h1, fun k hk => inN_nat (hin _ (getD_mem hk)), fun i j hi hj e => ?_, fun k hk1 => ?_, fun k h0 hk1 => ?_, (bg_cv h2).1, (en_cv h3).1, (bg_cv h2).2, (en_cv h3).2⟩
  · rw [List.getD_eq_getElem?_getD, List.getElem?_eq_getElem hi, List.getD_eq_getElem?_getD, List.getElem?_eq_getElem hj] at e
    have h6 := List.pairwise_iff_getElem.1 (List.nodup_iff_pairwise_ne.1 h4)
    rcases Nat.lt_trichotomy i j with h | h | h
    · exact absurd e (h6 i j hi hj h)
    · exact h
    · exact absurd e.symm (h6 j i hj hi h)
  · have := (hk (k + 1) hk1 (by omega)).2
    rwa [Nat.add_sub_cancel] at this
  · rcases (hk k (by omega) h0).1 with h | h
    · omega
    · exact h
theorem PaV.cases {p : Pl} {l : List Int} (_ : PaV p l) (x : Nat) : (∃ k, k < l.length ∧ (l.getD k 0).toNat = x) ∨ ∀ k, k < l.length → (l.getD k 0).toNat ≠ x := by
  by_cases h : ∃ k, k < l.length ∧ (l.getD k 0).toNat = x
  · exact .inl h
  · exact .inr fun k hk e => h ⟨k, hk, e⟩
end Go.Proofs.YtahpdkkpnkhnhaaGreatDoor
/- Walks: the law PathRoutes. -/
namespace Go.Proofs.YtahpdkkpnkhnhaaGreatDoor
open Go Go.Proofs Go.RowKit Go.Shelf
theorem Box.v3 {w : World} {b : Nat} {e : TypeId} {x y z : Value} (h : Box w b e [x, y, z]) : w.cell? ⟨b, 0, none⟩ = some x ∧ w.cell? ⟨b, 1, none⟩ = some y ∧ w.cell? ⟨b, 2, none⟩ = some z ∧ (∀ o, w.frozen? ⟨b, o, none⟩ = false) ∧ b < w.heap.size :=
  ⟨h.cell 0, h.cell 1, h.cell 2, h.frozen, h.lt⟩
theorem RtPost.sl {w : World} {L : List Int} {c : Int} {e : Ending} {w' : World} (h : RtPost w L c e w') (hl : L.length ≤ 1000000000) : ∃ v, e = .returned (.tuple #[v, .int .i64 c]) ∧ Sl encI 1 w' w'.heap.size v L ∧ Below w.heap.size w w' := by
  obtain ⟨v, rfl, ho, hb⟩ := h
  exact ⟨v, rfl, ho.toSl encI_len hl, hb⟩
end Go.Proofs.YtahpdkkpnkhnhaaGreatDoor
/- Plain: lists of paths; what CheckDisjoint says. -/
namespace Go.Proofs.YtahpdkkpnkhnhaaGreatDoor
open Go Go.Proofs Go.RowKit Go.Shelf
structure Pt where
  a : Option Addr
  c : Nat
  l : List Int
def Pt.enc (t : Pt) : List Value := [.slice t.a t.l.length t.c]
theorem Pt.enc_len (t : Pt) : t.enc.length = 1 := rfl
structure PtR (w : World) (B : Nat) (v : Value) (L : List Pt) : Prop where
  sl : Sl Pt.enc 1 w B v L
  rd : ∀ t ∈ L, Sl encI 1 w B (.slice t.a t.l.length t.c) t.l
theorem PtR.later {w w' : World} {v : Value} {L : List Pt} (h : PtR w w.heap.size v L) (hb : Below w.heap.size w w') : PtR w' w'.heap.size v L :=
  ⟨h.sl.later hb, fun t ht => (h.rd t ht).later hb⟩
end Go.Proofs.YtahpdkkpnkhnhaaGreatDoor
/- Lists of lists that a call has made. -/
namespace Go.Proofs.YtahpdkkpnkhnhaaGreatDoor
open Go Go.Proofs Go.RowKit Go.Shelf
structure Hdp where
  a : Option Addr
  n : Nat
  c : Nat
def Hdp.v (h : Hdp) : Value := .slice h.a h.n h.c
def Hdp.enc (h : Hdp) : List Value := [h.v]
theorem Hdp.enc_len (h : Hdp) : h.enc.length = 1 := rfl
theorem Hdp.enc_one (h : Hdp) : ∀ u ∈ h.enc, u.oneCell' = true := by intro u hu; simp [Hdp.enc] at hu; subst hu; rfl
theorem Tryz.under86 : Tryz.prog.underlying 86 = some (.slice 26) := by kernel_rfl
theorem Tryz.infoS : (Tryz.prog.info? 26).map (fun i => (i.zero, i.size, i.bytes)) = some (some (.slice none 0 0), 1, 24) := by kernel_rfl
theorem wpList_catP {α : Type} (f : α → List Value) (sz bytes : Nat) (t e : TypeId) (z : Value) {P : Program} (hT : P.underlying t = some (.slice e)) (hI : (P.info? e).map (fun i => (i.zero, i.size, i.bytes)) = some (some z, sz, bytes))
    (hzs : z.cells.size = sz) (hsz : 0 < sz) (hby : bytes ≤ 1000) (hf : ∀ x, (f x).length = sz) (h1c : ∀ x, ∀ u ∈ f x, u.oneCell' = true)
    (l l2 : List α) (base base2 : Nat) (w : World) (v u : Value) (hown : Own f sz e w base v l) (hbase : base ≤ w.heap.size) (hlen : l.length + l2.length ≤ 2000000000) (hu : Own f sz e w base2 u l2)
    {ops : Array Oper} {rest : List Oper} {o : Oper} {a : Act} {Q : Exit → Act → World → Prop} (hgd : o.guard = none) (s y : Operand)
    (ho : o.op = .call { callee := .builtin .append, args := #[s, y], argTypes := #[t, t] }) (hs : a.eval s = v) (hy : a.eval y = u)
    (h : ∀ v' w', Own f sz e w' base v' (l ++ l2) → w.grownBy w' v.ownBlock → wpList P ops Q rest (a.put o.dst v') w') : wpList P ops Q (o :: rest) a w := by
  rcases hu.2 with ⟨hv, h0⟩ | ⟨g, cap, cur, hv, _⟩
  · have hl2 : l2 = [] := List.eq_nil_of_length_eq_zero h0
    subst hl2
    obtain ⟨i, hi, _, _, _⟩ := info_parts hI
    refine wpList_append_own_none hgd s y t ho base e i sz hT hi v l.length _ hs hown (by rw [hy, hv]) ?_
    exact h v w (by rw [List.append_nil]; exact hown) (World.grownBy.refl _ _)
  · refine wpList_cat f sz bytes t e z hT hI hzs hsz hby hf h1c l l2 base w v hown hbase hlen ⟨g, 0, none⟩ cap ?_ hgd s y ho hs (by rw [hy, hv]) h
    intro i hi j q hq
    rw [hv] at hu
    have := hu.at hf i hi j q hq
    rw [Addr.add_lit, Nat.zero_add]
    exact this
def LLP (w : World) (base bi : Nat) (v : Value) (LL : List (List Int)) : Prop :=
  ∃ HH : List Hdp, Own Hdp.enc 1 26 w base v HH ∧ HH.length = LL.length ∧ ∀ i (h : i < HH.length) (h2 : i < LL.length), Own encI 1 3 w bi HH[i].v LL[i]
theorem LLP.later {w w' : World} {base bi : Nat} {v : Value} {LL : List (List Int)} (h : LLP w base bi v LL) (hb : Below w.heap.size w w') : LLP w' base bi v LL := by
  obtain ⟨HH, h1, h2, h3⟩ := h
  exact ⟨HH, h1.later hb, h2, fun i k1 k2 => (h3 i k1 k2).later hb⟩
theorem LLP.nil (w : World) (base bi : Nat) : LLP w base bi (.slice none 0 0) [] := ⟨[], Own.nil _ _ _ _ _, rfl, fun i h => absurd h (by simp)⟩
theorem LLP.push {w w' : World} {base bi : Nat} {v v' : Value} {LL : List (List Int)} {HH : List Hdp} {h : Hdp} {l : List Int} (h2 : HH.length = LL.length) (h3 : ∀ i (h : i < HH.length) (h2 : i < LL.length), Own encI 1 3 w bi HH[i].v LL[i])
    (hl : Own encI 1 3 w bi h.v l) (hv : Own Hdp.enc 1 26 w base v HH) (ho : Own Hdp.enc 1 26 w' base v' (HH ++ [h])) (hg : w.grownBy w' v.ownBlock) : LLP w' base bi v' (LL ++ [l]) := by
  refine ⟨HH ++ [h], ho, by simp [h2], fun i k1 k2 => ?_⟩
  have kept : ∀ (q : Value) (l : List Int), Own encI 1 3 w bi q l → Own encI 1 3 w' bi q l := by
    intro q l hq
    refine hq.kept hg ?_
    rcases hqo : q.ownBlock with _ | k
    · exact .inl rfl
    · exact .inr fun e => hq.two_types hv (by decide) k hqo e.symm
  by_cases hi : i < HH.length
  · have e1 : (HH ++ [h])[i] = HH[i] := List.getElem_append_left hi
    have e2 : (LL ++ [l])[i] = LL[i]'(by omega) := List.getElem_append_left (by omega)
    rw [e1, e2]
    exact kept _ _ (h3 i hi (by omega))
  · simp at k1 k2
    have hi2 : i = HH.length := by omega
    subst hi2
    have e1 : (HH ++ [h])[HH.length]'(by simp) = h := by simp
    have e2 : (LL ++ [l])[HH.length]'(by simp; omega) = l := by simp [h2]
    rw [e1, e2]
    exact kept _ _ hl
theorem LLP.lower {w : World} {base base' bi bi' : Nat} {v : Value} {LL : List (List Int)} (h : LLP w base bi v LL) (h1 : base' ≤ base) (h2 : bi' ≤ bi) : LLP w base' bi' v LL := by
  obtain ⟨HH, k1, k2, k3⟩ := h
  exact ⟨HH, k1.lower h1, k2, fun i q1 q2 => (k3 i q1 q2).lower h2⟩
theorem nx_mid {wr wA wB : World} {v1' : Value} {LJ : List Int} {cur : Int} (oA : Own encI 1 3 wA wr.heap.size v1' LJ) (gA : (wr.alloc (.cells #[] 3)).grownBy wA (some wr.heap.size)) (gB : (wA.alloc (.cells #[.int .i64 cur] 3)).grownBy wB v1'.ownBlock) :
    Below wr.heap.size wr wA ∧ Below wr.heap.size wr wB := by
  have h1 : Below wr.heap.size wr wA := ((Below.refl wr.heap.size wr).alloc (Nat.le_refl _) (.cells #[] 3)).grown gA (by simp) (fun k hk => by have : wr.heap.size = k := Option.some.inj hk; omega)
  have h2 := h1.alloc h1.size (.cells #[.int .i64 cur] 3)
  exact ⟨h1, h2.grown gB h2.size (fun k hk => oA.lt' k hk)⟩
theorem nx_push {W1 wr wB wC : World} {vn v3' : Value} {a2 : Option Addr} {n2 c2 : Nat} {NN : List (List Int)} {HH : List Hdp} {LJ : List Int} {cur : Int}
    (hb : Below W1.heap.size W1 wr) (h1 : Own Hdp.enc 1 26 wr W1.heap.size vn HH) (h2 : HH.length = NN.length) (h3 : ∀ i (h : i < HH.length) (h2 : i < NN.length), Own encI 1 3 wr W1.heap.size HH[i].v NN[i])
    (hm : Below wr.heap.size wr wB)
    (oB : Own encI 1 3 wB wr.heap.size (.slice a2 n2 c2) (LJ ++ [cur]))
    (oC : Own Hdp.enc 1 26 wC W1.heap.size v3' (HH ++ [⟨a2, n2, c2⟩])) (gC : (wB.alloc (.cells #[.slice a2 n2 c2] 26)).grownBy wC vn.ownBlock) :
    Below W1.heap.size W1 wC ∧ LLP wC W1.heap.size W1.heap.size v3' (NN ++ [LJ ++ [cur]]) := by
  have k1 := hb.trans (hm.mono hb.size)
  have k2 := k1.alloc k1.size (.cells #[.slice a2 n2 c2] 26)
  refine ⟨k2.grown gC k2.size (fun k hk => h1.lt' k hk), ?_⟩
  exact LLP.push h2 (fun i q1 q2 => ((h3 i q1 q2).later hm).alloc _) ((oB.alloc _).lower hb.size) ((h1.later hm).alloc _) oC gC
end Go.Proofs.YtahpdkkpnkhnhaaGreatDoor
/- Walks: Orders of the reference. -/
namespace Go.Proofs.YtahpdkkpnkhnhaaGreatDoor
open Go Go.Proofs Go.RowKit Go.Shelf
def kidsT (n : Nat) (l : List Int) (c : Nat) : List (List Int) := (((numsI n).take c).filter fun x => !l.contains x).map fun x => l ++ [x]
theorem kidsT_zero (n : Nat) (l : List Int) : kidsT n l 0 = [] := rfl
theorem kidsT_all (n : Nat) (l : List Int) : kidsT n l n = kidsO n l := by
  unfold kidsT kidsO
  rw [List.take_of_length_le (by rw [numsI_len]; exact Nat.le_refl _)]
theorem kidsT_succ (n : Nat) (l : List Int) (c : Nat) (h : c < n) : kidsT n l (c + 1) = if l.contains (c : Int) = true then kidsT n l c else kidsT n l c ++ [l ++ [(c : Int)]] := by
  unfold kidsT
  rw [take_snoc _ _ (by rw [numsI_len]; exact h), numsI_at n c h, List.filter_append, List.map_append]
  cases hq : l.contains (c : Int) with
  | true => rw [if_pos rfl, List.filter_cons_of_neg (by simp only [hq]; simp), List.filter_nil, List.map_nil, List.append_nil]
  | false => rw [if_neg (by simp), List.filter_cons_of_pos (by simp only [hq]; simp), List.filter_nil]; rfl
theorem kidsT_len (n : Nat) (l : List Int) (c : Nat) : (kidsT n l c).length ≤ c := by
  unfold kidsT
  rw [List.length_map]
  refine Nat.le_trans (List.length_filter_le _ _) ?_
  rw [List.length_take]; omega
def flatK (n : Nat) (LL : List (List Int)) (j : Nat) : List (List Int) := (LL.take j).flatMap (kidsO n)
theorem flatK_succ (n : Nat) (LL : List (List Int)) (j : Nat) (h : j < LL.length) : flatK n LL (j + 1) = flatK n LL j ++ kidsO n LL[j] := by
  unfold flatK
  rw [take_snoc _ _ h, List.flatMap_append]; simp
theorem flatK_len (n : Nat) (LL : List (List Int)) : ∀ j, j ≤ LL.length → (flatK n LL j).length ≤ n * j
  | 0, _ => by simp [flatK]
  | j + 1, h => by
    rw [flatK_succ n LL j h, List.length_append]
    have h1 := flatK_len n LL j (by omega)
    have h2 := kidsT_len n LL[j] n
    rw [kidsT_all] at h2
    rw [Nat.mul_succ]; omega
theorem levO_len (n : Nat) : ∀ k, (levO n k).length ≤ n ^ k
  | 0 => by simp [levO]
  | k + 1 => by
    have h1 := levO_len n k
    have h2 := flatK_len n (levO n k) (levO n k).length (Nat.le_refl _)
    unfold flatK at h2
    rw [List.take_length] at h2
    show ((levO n k).flatMap (kidsO n)).length ≤ _
    rw [Nat.pow_succ, Nat.mul_comm]
    exact Nat.le_trans h2 (Nat.mul_le_mul_left n h1)
def OrdsPost (w : World) (n : Nat) (e : Ending) (w' : World) : Prop := ∃ v, e = .returned v ∧ LLP w' w.heap.size w.heap.size v (levO n n) ∧ Below w.heap.size w w'
set_option maxRecDepth 100000 in
set_option maxHeartbeats 1000000 in
theorem orders131 (w : World) (n : Nat) (hn : n ≤ 6) : Calls Tryz.prog 131 #[.int .i64 n] w (OrdsPost w n) := by
  obtain ⟨Q, hQ⟩ : ∃ Q, OrdsPost w n = Q := ⟨_, rfl⟩
  rw [hQ]
  have HQ : Hid (∀ (v : Value) (w' : World), LLP w' w.heap.size w.heap.size v (levO n n) → Below w.heap.size w w' → Q (.returned v) w') := Lib.hid (fun v w' h1 h2 => by rw [← hQ]; exact ⟨v, rfl, h1, h2⟩)
  clear hQ
  go_enter Tryz.func131, Tryz.ntmps131
  go_wp2_with fail
  have hbl : Below w.heap.size w (w.alloc (.cells #[.slice none 0 0] 26)) := (Below.refl _ _).alloc (Nat.le_refl _) _
  have hll : LLP (w.alloc (.cells #[.slice none 0 0] 26)) w.heap.size w.heap.size (.slice (some ⟨w.heap.size, 0, none⟩) 1 1) (levO n 0) := by
    refine ⟨[⟨none, 0, 0⟩], ?_, rfl, fun i h1 h2 => ?_⟩
    · have := Own.lit (f := Hdp.enc) (sz := 1) Hdp.enc_len 26 [⟨none, 0, 0⟩] w #[.slice none 0 0] 1 w.heap.size rfl rfl (by simp) (by simp)
      simpa using this
    · simp at h1
      subst h1
      exact Own.nil _ _ _ _ _
  have HBL := Lib.hid hbl
  have HLL0 := Lib.hid hll
  clear hbl hll
  generalize w.alloc (.cells #[.slice none 0 0] 26) = w1 at *
  go_loopw [4, 3] (fun i o wr => ∃ (k : Nat), k ≤ n ∧ i = .int .i64 k ∧ Below w.heap.size w wr ∧ LLP wr w.heap.size w.heap.size o (levO n k)) (fun i _ _ => n - (intOf i).toNat)
  case atStart => exact ⟨0, by omega, rfl, HBL.out, HLL0.out⟩
  case round =>
    clear HBL HLL0
    obtain ⟨k, hk, rfl, hbe, hll⟩ := hrel
    have hp : n ^ k ≤ 46656 := by
      refine Nat.le_trans (Nat.pow_le_pow_left hn k) (Nat.le_trans (Nat.pow_le_pow_right (by omega) (show k ≤ 6 by omega)) (by decide))
    have hlen := levO_len n k
    have hord := lev_ord n k
    have hlv : levO n (k + 1) = (levO n k).flatMap (kidsO n) := rfl
    have HFIN : Hid (n = k → LLP wr w.heap.size w.heap.size _ (levO n n)) := Lib.hid (fun e => by have h := hll; rw [← e] at h; exact h)
    obtain ⟨LL, hLL⟩ : ∃ L, levO n k = L := ⟨_, rfl⟩
    rw [hLL] at hll hlen hord hlv
    have HLV := Lib.hid hlv
    have HORD := Lib.hid hord
    clear hLL hlv hord
    obtain ⟨HL, hown, hHL, hin⟩ := hll
    obtain ⟨ao, co, hsh⟩ := hown.shape
    subst hsh
    obtain ⟨nL, hnL⟩ : ∃ n, LL.length = n := ⟨_, rfl⟩
    have hHn : HL.length = nL := by omega
    rw [hHn] at hown HFIN ⊢
    have HNL := Lib.hid hnL
    have HHN := Lib.hid hHn
    have HOWN := Lib.hid hown
    have HIN := Lib.hid hin
    have HBE := Lib.hid hbe
    rw [hnL] at hlen
    have HL4 := Lib.hid (show nL ≤ 46656 by omega)
    clear hnL hHn hown hin hbe hHL hlen hp
    by_cases hlt : k < n
    rotate_left
    · obtain rfl : n = k := by omega
      have HF2 := Lib.hid (HFIN.out rfl)
      clear HFIN
      go_wp2_with fail
      exact HQ.out _ _ HF2.out HBE.out
    clear HFIN
    have hL4 := HL4.out
    go_wp2_with fail
    obtain ⟨W1, hW1⟩ : ∃ W1 : World, W1 = wr := ⟨_, rfl⟩
    subst hW1
    go_loopw [6, 5] (fun j o wr => ∃ (j0 : Nat), j0 ≤ nL ∧ j = .int .i64 j0 ∧ Below W1.heap.size W1 wr ∧ LLP wr W1.heap.size W1.heap.size o (flatK n LL j0)) (fun j _ _ => nL - (intOf j).toNat)
    case atStart => exact ⟨0, by omega, rfl, Below.refl _ _, LLP.nil _ _ _⟩
    case round =>
      obtain ⟨j0, hj, rfl, hb1, hnn⟩ := hrel
      have HB1 := Lib.hid hb1
      have HNN := Lib.hid hnn
      clear hb1 hnn
      by_cases hjl : j0 < nL
      rotate_left
      · obtain rfl : nL = j0 := by omega
        have HFI := Lib.hid (HNN.out.lower HBE.out.size HBE.out.size)
        have HFE := Lib.hid (show flatK n LL nL = levO n (k + 1) by
          rw [HLV.out]; unfold flatK; rw [List.take_of_length_le (by rw [HNL.out]; exact Nat.le_refl _)])
        go_wp2_with fail
        go_roundw
        case rel => exact ⟨k + 1, by omega, by go_num, HBE.out.trans (HB1.out.mono HBE.out.size), by rw [← HFE.out]; exact HFI.out⟩
        case measure => simp [intOf]; omega
      have HJL := Lib.hid (show j0 < LL.length by rw [HNL.out]; exact hjl)
      have HFS := Lib.hid (flatK_succ n LL j0 HJL.out)
      have HFL := Lib.hid (flatK_len n LL j0 (by rw [HNL.out]; omega))
      obtain ⟨LJ, hLJ⟩ : ∃ l, LL[j0]'HJL.out = l := ⟨_, rfl⟩
      rw [hLJ] at HFS
      have hjh : j0 < HL.length := by rw [HHN.out]; exact hjl
      have HOJ := Lib.hid (show Own encI 1 3 W1 w.heap.size (HL[j0]'hjh).v LJ from by rw [← hLJ]; exact HIN.out j0 hjh HJL.out)
      obtain ⟨go, cgo, hgo, hgob, hgoz⟩ := HOWN.out.form (by rw [HHN.out]; omega)
      rw [HHN.out] at hgo
      injection hgo with g1 g2 g3
      subst g1 g3
      clear g2
      have HC0 := Lib.hid (HOWN.out.atN HHN.out Hdp.enc_len j0 hjh)
      obtain ⟨hd, hhd⟩ : ∃ h, HL[j0]'hjh = h := ⟨_, rfl⟩
      rw [hhd] at HOJ HC0
      have HLL8 := Lib.hid (show LJ.length ≤ 1000 by
        have := (HORD.out LJ (by rw [← hLJ]; exact List.getElem_mem _)).len
        rw [this]; omega)
      have HFM := Lib.hid (show n * j0 ≤ 300000 by have := HL4.out; have : n * j0 ≤ 6 * 46656 := Nat.mul_le_mul hn (by omega); omega)
      clear hhd hLJ
      go_wp2_with fail
      go_loopw [7, 5] (fun c o wr => ∃ (cur : Nat), cur ≤ n ∧ c = .int .i64 cur ∧ Below W1.heap.size W1 wr ∧ LLP wr W1.heap.size W1.heap.size o (flatK n LL j0 ++ kidsT n LJ cur)) (fun c _ _ => n - (intOf c).toNat)
      case atStart => exact ⟨0, by omega, rfl, HB1.out, by rw [kidsT_zero, List.append_nil]; exact HNN.out⟩
      case round =>
        clear HB1 HNN
        obtain ⟨cur, hc, rfl, hb1, hnn⟩ := hrel
        have HB1 := Lib.hid hb1
        by_cases hcl : cur < n
        rotate_left
        · obtain rfl : n = cur := by omega
          have HNN := Lib.hid hnn
          clear hb1 hnn
          go_wp2_with fail
          go_roundw
          case rel => exact ⟨j0 + 1, by omega, by go_num, HB1.out, by rw [HFS.out, ← kidsT_all]; exact HNN.out⟩
          case measure => simp [intOf]; omega
        have c0 := (At.below HC0.out hb1 hgoz).c1
        rw [Nat.mul_one] at c0
        have hgz : go < wr.heap.size := by have := hb1.size; omega
        have HK24 := Lib.hid (in24 hd.v LJ (cur : Int) wr ((HOJ.out.later hb1).toSl encI_len (by have := HLL8.out; omega)))
        have HKS := Lib.hid (kidsT_succ n LJ cur hcl)
        have HKL := Lib.hid (kidsT_len n LJ cur)
        have hdv : hd.v = .slice hd.a hd.n hd.c := rfl
        obtain ⟨HH, q1, q2, q3⟩ := hnn
        have Q1 := Lib.hid q1
        have Q2 := Lib.hid q2
        have Q3 := Lib.hid q3
        have QN := Lib.hid (show HH.length ≤ 1000000 by
          have h1 := Q2.out
          have h2 := HFL.out
          have h3 := HFM.out
          have h4 := HKL.out
          rw [List.length_append] at h1
          omega)
        have HOJr := Lib.hid ((HOJ.out.later hb1).alloc (.cells #[] 3))
        have HLIT := Lib.hid (Own.lit (f := encI) (sz := 1) (l := []) encI_len 3 wr #[] 0 wr.heap.size rfl rfl (by simp) (Nat.le_refl _))
        have HSA := Lib.hid (show wr.heap.size ≤ (wr.alloc (.cells #[] 3)).heap.size by simp)
        obtain ⟨sk, hsk⟩ : ∃ b, LJ.contains (cur : Int) = b := ⟨_, rfl⟩
        rw [hsk] at HK24 HKS
        have HLLN := Lib.hid (show LLP wr W1.heap.size W1.heap.size _ (flatK n LL j0 ++ kidsT n LJ cur) from ⟨HH, Q1.out, Q2.out, Q3.out⟩)
        obtain ⟨NN, hNE⟩ : ∃ N, flatK n LL j0 ++ kidsT n LJ cur = N := ⟨_, rfl⟩
        rw [hNE] at HLLN Q2 Q3
        have HNE := Lib.hid hNE
        clear hNE
        clear hb1 q1 q2 q3 hsk hdv
        obtain ⟨dv, hdv⟩ : ∃ v, hd.v = v := ⟨_, rfl⟩
        have hda : Value.slice hd.a hd.n hd.c = dv := hdv
        have HDV := Lib.hid hdv
        (try simp only [Hdp.enc] at c0)
        rw [hdv] at c0 HK24 HOJr
        clear hdv hda
        cases sk with
        | true =>
          have HKT := Lib.hid (show kidsT n LJ (cur + 1) = kidsT n LJ cur from HKS.out)
          clear HKS
          go_wp2_with fail
          refine HK24.out.mono ?_
          rintro e wx ⟨rfl, rfl⟩
          go_wp2_with fail
          go_roundw
          case rel => exact ⟨cur + 1, by omega, by go_num, HB1.out, by rw [HKT.out, HNE.out]; exact HLLN.out⟩
          case measure => simp [intOf]; omega
        | false =>
          have HKF := Lib.hid (show kidsT n LJ (cur + 1) = kidsT n LJ cur ++ [LJ ++ [(cur : Int)]] by rw [HKS.out, if_neg (by simp)])
          go_wp2_with fail
          refine HK24.out.mono ?_
          rintro e wx ⟨rfl, rfl⟩
          go_wp2_with (first
            | (at_builtin; refine wpList_catP encI 1 8 26 3 _ Tryz.underlying26 infoI rfl (by decide) (by decide) encI_len encI_one [] LJ wr.heap.size _ (wr.alloc (.cells #[] 3)) (.slice (some ⟨wr.heap.size, 0, none⟩) 0 0) dv HLIT.out HSA.out (by have := HLL8.out; simp; omega) HOJr.out rfl _ _ rfl rfl rfl ?_; intro vA wA hoA hgA; have OA := Lib.hid (show Own encI 1 3 wA wr.heap.size vA LJ from hoA); have GA := Lib.hid (show (wr.alloc (.cells #[] 3)).grownBy wA (some wr.heap.size) from hgA); have HSB := Lib.hid (show wr.heap.size ≤ (wA.alloc (.cells #[.int .i64 (cur : Int)] 3)).heap.size by have := hgA.size; simp at this ⊢; omega); have HNA := Lib.hid (show (wA.alloc (.cells #[.int .i64 (cur : Int)] 3)).heap[wA.heap.size]? = some (.cells #[.int .i64 (cur : Int)] 3 (0, 0)) by simpa using heap_alloc_new wA (.cells #[.int .i64 (cur : Int)] 3)); clear hoA hgA)
            | (at_builtin; refine wpList_pushB encI 1 8 26 3 _ Tryz.underlying26 infoI rfl (by decide) (by decide) encI_len encI_one LJ (cur : Int) wr.heap.size (wA.alloc (.cells #[.int .i64 (cur : Int)] 3)) wA.heap.size #[.int .i64 (cur : Int)] 3 HNA.out rfl vA (OA.out.alloc _) HSB.out (by have := HLL8.out; omega) rfl _ _ rfl rfl rfl ?_; intro vB wB hoB hgB; obtain ⟨aB, cB, hvB⟩ := hoB.shape; subst hvB; have OB := Lib.hid hoB; have GB := Lib.hid hgB; have MB := Lib.hid (nx_mid OA.out GA.out hgB).2; generalize (LJ ++ [(cur : Int)]).length = nB at *; have HNB := Lib.hid (show (wB.alloc (.cells #[.slice aB nB cB] 26)).heap[wB.heap.size]? = some (.cells #[.slice aB nB cB] 26 (0, 0)) by simpa using heap_alloc_new wB (.cells #[.slice aB nB cB] 26)); have QB := Lib.hid ((Q1.out.later MB.out).alloc (.cells #[.slice aB nB cB] 26)); have HSC := Lib.hid (show W1.heap.size ≤ (wB.alloc (.cells #[.slice aB nB cB] 26)).heap.size by have := MB.out.size; have := HB1.out.size; simp; omega); clear hoB hgB)
            | (at_builtin; refine wpList_pushB Hdp.enc 1 24 86 26 _ Tryz.under86 Tryz.infoS rfl (by decide) (by decide) Hdp.enc_len Hdp.enc_one HH ⟨aB, nB, cB⟩ W1.heap.size (wB.alloc (.cells #[.slice aB nB cB] 26)) wB.heap.size #[.slice aB nB cB] 26 HNB.out rfl _ QB.out HSC.out QN.out rfl _ _ rfl rfl rfl ?_; intro vC wC hoC hgC; have HNP := Lib.hid (nx_push HB1.out Q1.out Q2.out Q3.out MB.out OB.out hoC hgC); clear hoC hgC))
          go_roundw
          case rel => exact ⟨cur + 1, by omega, by go_num, HNP.out.1, by rw [HKF.out, ← List.append_assoc, HNE.out]; exact HNP.out.2⟩
          case measure => simp [intOf]; omega
end Go.Proofs.YtahpdkkpnkhnhaaGreatDoor
