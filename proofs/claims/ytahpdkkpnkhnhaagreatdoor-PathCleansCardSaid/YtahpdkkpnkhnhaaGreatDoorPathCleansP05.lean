/- Lemmas on the way to the law PathCleans (part 5): Nb Nc Nd -/
import Derived.Test.YtahpdkkpnkhnhaaGreatDoorPathCleansP04
set_option linter.unusedVariables false
set_option linter.unusedSimpArgs false

/- Plain: the commands keep a state valid. -/
namespace Go.Proofs.YtahpdkkpnkhnhaaGreatDoor
open Go Go.Proofs Go.RowKit Go.Shelf
abbrev nAt (l : List Int) (k : Nat) : Nat := (l.getD k 0).toNat
/-- A state changed along a path. -/
structure Along (l : List Int) (F : Nat → Sx → Sx) (st S : List Sx) : Prop where
  len : S.length = st.length
  on : ∀ k, k < l.length → sAt S (nAt l k) = F k (sAt st (nAt l k))
  off : ∀ x, (∀ k, k < l.length → nAt l k ≠ x) → sAt S x = sAt st x
theorem Along.of {p : Pl} {l : List Int} (hl : PaV p l) {st : List Sx} (hn : st.length = p.ms.length) (F : Nat → Sx → Sx) : Along l F st (alongTo F l st l.length) :=
  ⟨along_len _ _ _ _, fun k hk => along_on F l st (fun j hj => by rw [hn]; exact (hl.nat hj).2) hl.ndN _ (Nat.le_refl _) k hk, fun x hx => along_off F l st x _ hx⟩
theorem StV.neg {p : Pl} {st : List Sx} (hok : OkP p) (h : StV p st) {x : Nat} (hx : x < p.ms.length) (h0 : (sAt st x).feeds < 0) : (sAt st x).feeds = -1 := by
  rcases h.fd x hx with h1 | h1
  · exact h1
  · obtain ⟨y, hy, _⟩ := inN_nat (hok.ins _ h1).2.1
    dsimp only at hy; omega
theorem StV.at_ {p : Pl} {st : List Sx} (hok : OkP p) (h : StV p st) {x y : Nat} (hx : x < p.ms.length) (h0 : (sAt st x).feeds = (y : Int)) : y < p.ms.length := by
  rcases h.fd x hx with h1 | h1
  · omega
  · obtain ⟨z, hz, hl⟩ := inN_nat (hok.ins _ h1).2.1
    dsimp only at hz; omega
theorem noB_list : (⟨#[]⟩ : ByteArray).toList = [] := by simp [ByteArray.toList_eq]
section
variable {p : Pl} {st S : List Sx} {l : List Int} {g : ByteArray} {cl : Bool}
/-- What a start leaves. -/
structure StartV (p : Pl) (st S : List Sx) (l : List Int) (g : ByteArray) : Prop where
  len : S.length = st.length
  runs : ∀ k, k < l.length → (sAt S (nAt l k)).runs = cvB (kdA p (nAt l k : Nat))
  feeds : ∀ k, k + 1 < l.length → (sAt S (nAt l k)).feeds = (nAt l (k + 1) : Nat)
  fend : ∀ k, k + 1 = l.length → (sAt S (nAt l k)).feeds = -1
  grain : ∀ k, k < l.length → (sAt S (nAt l k)).grain = if kpB (kdA p (nAt l k : Nat)) then g else (sAt st (nAt l k)).grain
  off : ∀ x, (∀ k, k < l.length → nAt l k ≠ x) → sAt S x = sAt st x
theorem StartV.of (hok : OkP p) (h : StV p st) (hl : PaV p l) (hs : ∀ k, k < l.length → StK p st g k (nAt l k)) : StartV p st (startTo p l g st l.length) l g := by
  have A := Along.of hl h.len (startV p l g)
  rw [← start_along] at A
  generalize startTo p l g st l.length = S at A
  refine ⟨A.len, fun k hk => by rw [A.on k hk]; rfl, fun k hk => ?_, fun k hk => ?_, fun k hk => by rw [A.on k hk]; rfl, A.off⟩
  · rw [A.on k (by omega)]
    show (if k + 1 < l.length then l.getD (k + 1) 0 else _) = _
    rw [if_pos hk]; exact (hl.nat hk).1
  · rw [A.on k (by omega)]
    show (if k + 1 < l.length then l.getD (k + 1) 0 else (sAt st (nAt l k)).feeds) = _
    rw [if_neg (by omega)]
    exact h.neg hok (hl.nat (by omega)).2 (hs k (by omega)).fd
theorem StartV.to (A : StartV p st S l g) (hok : OkP p) (h : StV p st) (hl : PaV p l) (hs : ∀ k, k < l.length → StK p st g k (nAt l k)) {x y : Nat} (hx : x < p.ms.length) (hf : (sAt S x).feeds = (y : Int)) :
    (∃ k, k + 1 < l.length ∧ x = nAt l k ∧ y = nAt l (k + 1)) ∨ ((∀ k, k < l.length → nAt l k ≠ x) ∧ (∀ k, k < l.length → nAt l k ≠ y) ∧ (sAt st x).feeds = (y : Int)) := by
  rcases hl.cases x with ⟨k, hk, rfl⟩ | hx0
  · by_cases hk1 : k + 1 < l.length
    · rw [A.feeds k hk1] at hf
      exact .inl ⟨k, hk1, rfl, by omega⟩
    · have := A.fend k (by omega); unfold nAt at this; omega
  · rw [A.off x hx0] at hf
    refine .inr ⟨hx0, fun k hk e => ?_, hf⟩
    have := (hs k hk).fed x (by have := h.len; omega)
    rw [e] at this; exact this hf
theorem StartV.valid (A : StartV p st S l g) (hok : OkP p) (h : StV p st) (hl : PaV p l) (hs : ∀ k, k < l.length → StK p st g k (nAt l k)) (hg : isName g = true) : StV p S := by
  have T := fun {x y : Nat} => A.to hok h hl hs (x := x) (y := y)
  have hge := name_ne hg
  refine ⟨A.len.trans h.len, fun x hx hr => ?_, fun x hx => ?_, fun x hx hr => ?_, fun x hx hr => ?_, fun x y hx hy h0 he => ?_, fun x y hx hf hr hc => ?_, fun x y hx hf hk => ?_, fun x y hx hf hk => ?_, fun x y hx hf hk hk2 => ?_⟩
  · rcases hl.cases x with ⟨k, hk, rfl⟩ | hx0
    · rw [← A.runs k hk]; exact hr
    · rw [A.off x hx0] at hr; exact h.run x hx hr
  · rcases hl.cases x with ⟨k, hk, rfl⟩ | hx0
    · by_cases hk1 : k + 1 < l.length
      · right
        have := hl.arc k hk1
        rw [(hl.nat hk).1, (hl.nat hk1).1] at this
        have e := A.feeds k hk1
        unfold nAt at e
        rw [e]; exact this
      · left; exact A.fend k (by omega)
    · rw [A.off x hx0]; exact h.fd x hx
  · rcases hl.cases x with ⟨k, hk, rfl⟩ | hx0
    · have e := A.grain k hk
      unfold nAt at e
      rw [e] at hr ⊢
      cases hq : kpB (kdA p ((l.getD k 0).toNat : Nat)) with
      | true => exact ⟨hg, rfl⟩
      | false =>
        rw [hq] at hr
        have := h.gr _ hx hr
        rw [hq] at this
        exact absurd this.2 (by simp)
    · rw [A.off x hx0] at hr ⊢; exact h.gr x hx hr
  · rcases hl.cases x with ⟨k, hk, rfl⟩ | hx0
    · by_cases hk1 : k + 1 < l.length
      · have := A.feeds k hk1; unfold nAt at this; omega
      · have e := A.runs k hk
        have e2 := hl.lst
        rw [show l.length - 1 = k by omega, (hl.nat hk).1] at e2
        unfold nAt at e
        rw [e]; exact e2
    · rw [A.off x hx0] at hr ⊢; exact h.nr x hx hr
  · obtain ⟨z, hz⟩ : ∃ z : Nat, (sAt S x).feeds = (z : Int) := ⟨(sAt S x).feeds.toNat, by omega⟩
    rcases T hx hz with ⟨k, hk, e1, e2⟩ | ⟨a1, a2, a3⟩ <;> rcases T hy (he ▸ hz) with ⟨j, hj, f1, f2⟩ | ⟨b1, b2, b3⟩
    · have := hl.ndN (k + 1) (j + 1) hk hj (e2.symm.trans f2)
      rw [e1, f1, Nat.succ.inj this]
    · exact absurd e2.symm (b2 _ hk)
    · exact absurd f2.symm (a2 _ hj)
    · exact h.uq x y hx hy (by omega) (a3.trans b3.symm)
  · rcases T hx hf with ⟨k, hk, e1, e2⟩ | ⟨a1, a2, a3⟩
    · rw [e2, A.runs _ hk, ← e2]; exact hc
    · rw [A.off y a2]
      rw [A.off x a1] at hr
      exact h.fl x y hx a3 hr hc
  · rcases T hx hf with ⟨k, hk1, e1, e2⟩ | ⟨a1, a2, a3⟩
    · rw [e1, A.grain _ (by omega), ← e1, hk]; exact hge
    · rw [A.off x a1]; exact h.g1 x y hx a3 hk
  · rcases T hx hf with ⟨k, hk1, e1, e2⟩ | ⟨a1, a2, a3⟩
    · rw [e2, A.grain _ hk1, ← e2, hk]; exact hge
    · rw [A.off y a2]; exact h.g2 x y hx a3 hk
  · rcases T hx hf with ⟨k, hk1, e1, e2⟩ | ⟨a1, a2, a3⟩
    · rw [e2, A.grain _ hk1, ← e2, hk2, e1, A.grain _ (by omega), ← e1, hk]; rfl
    · rw [A.off y a2, A.off x a1]; exact h.g3 x y hx a3 hk hk2
theorem setB_at (hl : PaV p l) : setB st l = true ↔ ∀ k, k + 1 < l.length → (sAt st (nAt l k)).feeds = (nAt l (k + 1) : Nat) := by
  rw [setB_iff]
  constructor
  · intro h k hk
    have := h (k + 1) hk
    unfold setK at this
    simp only [Bool.or_eq_true, decide_eq_true_eq, Nat.add_sub_cancel, beq_iff_eq] at this
    rcases this with h1 | h1
    · omega
    · rw [← (hl.nat hk).1]; exact h1
  · intro h k hk
    unfold setK
    simp only [Bool.or_eq_true, decide_eq_true_eq, beq_iff_eq]
    by_cases h0 : k = 0
    · exact .inl h0
    · right
      have := h (k - 1) (by omega)
      rw [show k - 1 + 1 = k by omega] at this
      rw [(hl.nat hk).1]; exact this
/-- What a stop leaves. -/
structure StopV (p : Pl) (st S : List Sx) (l : List Int) (cl : Bool) : Prop where
  len : S.length = st.length
  runs : ∀ k, k < l.length → (sAt S (nAt l k)).runs = false
  feeds : ∀ k, k + 1 < l.length → (sAt S (nAt l k)).feeds = -1
  fend : ∀ k, k + 1 = l.length → (sAt S (nAt l k)).feeds = (sAt st (nAt l k)).feeds
  grain : ∀ k, k < l.length → (sAt S (nAt l k)).grain = if cvB (kdA p (nAt l k : Nat)) && cl then ⟨#[]⟩ else (sAt st (nAt l k)).grain
  off : ∀ x, (∀ k, k < l.length → nAt l k ≠ x) → sAt S x = sAt st x
theorem StopV.of (h : StV p st) (hl : PaV p l) (cl : Bool) : StopV p st (stopTo p l cl st l.length) l cl := by
  have A := Along.of hl h.len (stopV p l cl)
  rw [← stop_along] at A
  generalize stopTo p l cl st l.length = S at A
  refine ⟨A.len, fun k hk => ?_, fun k hk => ?_, fun k hk => ?_, fun k hk => by rw [A.on k hk]; rfl, A.off⟩
  · rw [A.on k hk]
    show (if cvB (kdA p (nAt l k : Nat)) then false else (sAt st (nAt l k)).runs) = false
    cases hq : cvB (kdA p (nAt l k : Nat)) with
    | true => rfl
    | false =>
      cases hr : (sAt st (nAt l k)).runs with
      | false => rfl
      | true => have := h.run _ (hl.nat hk).2 hr; unfold nAt at hq; rw [hq] at this; cases this
  · rw [A.on k (by omega)]
    show (if k + 1 < l.length then -1 else _) = _
    rw [if_pos hk]
  · rw [A.on k (by omega)]
    show (if k + 1 < l.length then -1 else _) = _
    rw [if_neg (by omega)]
theorem StopV.to (A : StopV p st S l cl) (h : StV p st) (hl : PaV p l) (hs : ∀ k, k + 1 < l.length → (sAt st (nAt l k)).feeds = (nAt l (k + 1) : Nat)) {x y : Nat} (hx : x < p.ms.length) (hf : (sAt S x).feeds = (y : Int)) :
    (sAt st x).feeds = (y : Int) ∧ (∀ k, k + 1 < l.length → nAt l k ≠ x) ∧ (sAt S x).grain = (sAt st x).grain ∧ ((sAt S x).runs = true → (sAt st x).runs = true ∧ (cvB (kdA p y) = true → (sAt S y).runs = (sAt st y).runs)) ∧ (sAt S y).grain = (sAt st y).grain := by
  have h1 : (sAt st x).feeds = (y : Int) ∧ (∀ k, k + 1 < l.length → nAt l k ≠ x) ∧ (sAt S x).grain = (sAt st x).grain ∧ ((sAt S x).runs = true → (sAt st x).runs = true) := by
    rcases hl.cases x with ⟨k, hk, rfl⟩ | hx0
    · by_cases hk1 : k + 1 < l.length
      · have := A.feeds k hk1; unfold nAt at this; omega
      · have e1 := A.fend k (by omega)
        have e2 := A.grain k hk
        have e3 := A.runs k hk
        have e4 := hl.lst
        rw [show l.length - 1 = k by omega, (hl.nat hk).1] at e4
        unfold nAt at e1 e2 e3
        rw [e4] at e2
        refine ⟨e1.symm.trans hf, fun j hj e => ?_, e2, fun hr => by rw [e3] at hr; cases hr⟩
        have := hl.ndN j k (by omega) hk e
        omega
    · rw [A.off x hx0] at hf ⊢
      exact ⟨hf, fun k hk => hx0 k (by omega), rfl, fun h => h⟩
  obtain ⟨a1, a2, a3, a4⟩ := h1
  have h2 : ∀ j, j < l.length → nAt l j = y → cvB (kdA p y) = false := fun j hj e => by
    subst e
    by_cases h0 : j = 0
    · subst h0
      have := hl.fst
      rw [(hl.nat hj).1] at this; exact this
    · have e5 := hs (j - 1) (by omega)
      rw [show j - 1 + 1 = j by omega] at e5
      exact absurd (h.uq _ _ (hl.nat (by omega)).2 hx (show 0 ≤ (sAt st (nAt l (j - 1))).feeds by rw [e5]; exact Int.natCast_nonneg _) (e5.trans a1.symm)) (a2 (j - 1) (by omega))
  refine ⟨a1, a2, a3, fun hr => ⟨a4 hr, fun hc => ?_⟩, ?_⟩
  · rw [A.off y fun k hk e => by rw [h2 k hk e] at hc; cases hc]
  · rcases hl.cases y with ⟨k, hk, rfl⟩ | hy0
    · have e2 := A.grain k hk
      unfold nAt at e2
      rw [e2, h2 k hk rfl]; rfl
    · rw [A.off y hy0]
theorem StopV.valid (A : StopV p st S l cl) (h : StV p st) (hl : PaV p l) (hs : ∀ k, k + 1 < l.length → (sAt st (nAt l k)).feeds = (nAt l (k + 1) : Nat)) : StV p S := by
  have T := fun {x y : Nat} => A.to h hl hs (x := x) (y := y)
  refine ⟨A.len.trans h.len, fun x hx hr => ?_, fun x hx => ?_, fun x hx hr => ?_, fun x hx hr => ?_, fun x y hx hy h0 he => ?_, fun x y hx hf hr hc => ?_, fun x y hx hf hk => ?_, fun x y hx hf hk => ?_, fun x y hx hf hk hk2 => ?_⟩
  · rcases hl.cases x with ⟨k, hk, rfl⟩ | hx0
    · have e3 := A.runs k hk; unfold nAt at e3; rw [e3] at hr; cases hr
    · rw [A.off x hx0] at hr; exact h.run x hx hr
  · rcases hl.cases x with ⟨k, hk, rfl⟩ | hx0
    · by_cases hk1 : k + 1 < l.length
      · left; exact A.feeds k hk1
      · have e := A.fend k (by omega)
        unfold nAt at e
        rw [e]; exact h.fd _ hx
    · rw [A.off x hx0]; exact h.fd x hx
  · rcases hl.cases x with ⟨k, hk, rfl⟩ | hx0
    · have e := A.grain k hk
      unfold nAt at e
      rw [e] at hr ⊢
      cases hq : cvB (kdA p ((l.getD k 0).toNat : Nat)) && cl with
      | true => rw [hq, if_pos rfl, noB_list] at hr; cases hr
      | false => rw [hq] at hr; exact h.gr _ hx hr
    · rw [A.off x hx0] at hr ⊢; exact h.gr x hx hr
  · rcases hl.cases x with ⟨k, hk, rfl⟩ | hx0
    · exact A.runs k hk
    · rw [A.off x hx0] at hr ⊢; exact h.nr x hx hr
  · obtain ⟨z, hz⟩ : ∃ z : Nat, (sAt S x).feeds = (z : Int) := ⟨(sAt S x).feeds.toNat, by omega⟩
    have t1 := (T hx hz).1
    have t2 := (T hy (he ▸ hz)).1
    exact h.uq x y hx hy (by omega) (t1.trans t2.symm)
  · obtain ⟨a1, _, _, a4, _⟩ := T hx hf
    obtain ⟨a5, a6⟩ := a4 hr
    rw [a6 hc]; exact h.fl x y hx a1 a5 hc
  · obtain ⟨a1, _, a3, _, _⟩ := T hx hf
    rw [a3]; exact h.g1 x y hx a1 hk
  · obtain ⟨a1, _, _, _, a5⟩ := T hx hf
    rw [a5]; exact h.g2 x y hx a1 hk
  · obtain ⟨a1, _, a3, _, a5⟩ := T hx hf
    rw [a5, a3]; exact h.g3 x y hx a1 hk hk2
/-- What a resumption leaves. -/
structure ResV (p : Pl) (st S : List Sx) (l : List Int) : Prop where
  len : S.length = st.length
  runs : ∀ k, k < l.length → (sAt S (nAt l k)).runs = cvB (kdA p (nAt l k : Nat))
  feeds : ∀ x, (sAt S x).feeds = (sAt st x).feeds
  grain : ∀ x, (sAt S x).grain = (sAt st x).grain
  off : ∀ x, (∀ k, k < l.length → nAt l k ≠ x) → sAt S x = sAt st x
theorem ResV.of (h : StV p st) (hl : PaV p l) : ResV p st (resumeTo p l st l.length) l := by
  have A := Along.of hl h.len (resumeV p l)
  rw [← resume_along] at A
  generalize resumeTo p l st l.length = S at A
  refine ⟨A.len, fun k hk => by rw [A.on k hk]; rfl, fun x => ?_, fun x => ?_, A.off⟩
  · rcases hl.cases x with ⟨k, hk, rfl⟩ | hx0
    · have e := A.on k hk; unfold nAt at e; rw [e]; rfl
    · rw [A.off x hx0]
  · rcases hl.cases x with ⟨k, hk, rfl⟩ | hx0
    · have e := A.on k hk; unfold nAt at e; rw [e]; rfl
    · rw [A.off x hx0]
theorem ResV.valid (A : ResV p st S l) (h : StV p st) (hl : PaV p l) (hs : ∀ k, k + 1 < l.length → (sAt st (nAt l k)).feeds = (nAt l (k + 1) : Nat)) : StV p S := by
  have HL : ∀ k, k + 1 = l.length → (sAt S (nAt l k)).runs = false := fun k hk => by
    rw [A.runs k (by omega)]
    have e4 := hl.lst
    rw [show l.length - 1 = k by omega, (hl.nat (by omega)).1] at e4
    exact e4
  refine ⟨A.len.trans h.len, fun x hx hr => ?_, fun x hx => by rw [A.feeds]; exact h.fd x hx, fun x hx hr => by rw [A.grain] at hr ⊢; exact h.gr x hx hr, fun x hx hr => ?_, fun x y hx hy h0 he => by rw [A.feeds] at h0 he; rw [A.feeds] at he; exact h.uq x y hx hy h0 he, fun x y hx hf hr hc => ?_, fun x y hx hf hk => ?_, fun x y hx hf hk => ?_, fun x y hx hf hk hk2 => ?_⟩
  · rcases hl.cases x with ⟨k, hk, rfl⟩ | hx0
    · rw [← A.runs k hk]; exact hr
    · rw [A.off x hx0] at hr; exact h.run x hx hr
  · rcases hl.cases x with ⟨k, hk, rfl⟩ | hx0
    · by_cases hk1 : k + 1 < l.length
      · have e := hs k hk1
        rw [A.feeds] at hr
        unfold nAt at e; omega
      · exact HL k (by omega)
    · rw [A.off x hx0] at hr ⊢; exact h.nr x hx hr
  · rw [A.feeds] at hf
    rcases hl.cases y with ⟨j, hj, rfl⟩ | hy0
    · have e := A.runs j hj
      unfold nAt at e
      rw [e]; exact hc
    · rw [A.off y hy0]
      rcases hl.cases x with ⟨k, hk, rfl⟩ | hx0
      · by_cases hk1 : k + 1 < l.length
        · have e := hs k hk1
          unfold nAt at e
          exact absurd (show nAt l (k + 1) = y by unfold nAt; omega) (hy0 _ hk1)
        · have e := HL k (by omega)
          unfold nAt at e
          rw [e] at hr; cases hr
      · rw [A.off x hx0] at hr
        exact h.fl x y hx hf hr hc
  · rw [A.feeds] at hf; rw [A.grain]; exact h.g1 x y hx hf hk
  · rw [A.feeds] at hf; rw [A.grain]; exact h.g2 x y hx hf hk
  · rw [A.feeds] at hf; rw [A.grain, A.grain]; exact h.g3 x y hx hf hk hk2
end
theorem mem_upL {st : List Sx} {mc : Int} {x n : Nat} : (x : Int) ∈ upL st mc n ↔ x < n ∧ UpR st mc x := by
  unfold upL
  rw [List.mem_map]
  constructor
  · rintro ⟨i, hi, e⟩
    rw [List.mem_filter, List.mem_range] at hi
    have : i = x := by omega
    subst this
    have h2 := hi.2
    unfold upB at h2
    simp only [decide_eq_true_eq] at h2
    exact ⟨hi.1, h2⟩
  · rintro ⟨h1, h2⟩
    exact ⟨x, List.mem_filter.2 ⟨List.mem_range.2 h1, by unfold upB; simpa using h2⟩, rfl⟩
theorem upL_nn {st : List Sx} {mc y : Int} {n : Nat} (h : y ∈ upL st mc n) : 0 ≤ y := by
  unfold upL at h
  obtain ⟨i, _, rfl⟩ := List.mem_map.1 h
  omega
theorem offL_get : ∀ (l : List Int) (st : List Sx) (x : Nat), (∀ m ∈ l, 0 ≤ m) → sAt (offL st l) x = if (x : Int) ∈ l then offX (sAt st x) else sAt st x
  | [], st, x, _ => by simp [offL]
  | m :: r, st, x, h => by
    show sAt (offL (offAt st m) r) x = _
    rw [offL_get r _ x fun y hy => h y (by simp [hy])]
    have h0 := h m (by simp)
    have e : sAt (offAt st m) x = if (x : Int) = m then offX (sAt st x) else sAt st x := by
      unfold offAt sAt
      rw [getD_set]
      by_cases hx : (x : Int) = m
      · subst hx
        rw [Int.toNat_natCast, if_pos rfl]
        by_cases hl : x < st.length
        · rw [if_pos ⟨rfl, hl⟩]
        · rw [if_neg (fun hh => hl hh.2), List.getD_eq_getElem?_getD, List.getElem?_eq_none (by omega)]; rfl
      · rw [if_neg hx, if_neg (fun hh => hx (by omega))]
    rw [e]
    by_cases hx : (x : Int) = m
    · rw [if_pos hx]
      have : (x : Int) ∈ m :: r := by simp [hx]
      rw [if_pos this]
      by_cases hr : (x : Int) ∈ r
      · rw [if_pos hr]; rfl
      · rw [if_neg hr]
    · rw [if_neg hx]
      by_cases hr : (x : Int) ∈ r
      · rw [if_pos hr, if_pos (by simp [hr])]
      · rw [if_neg hr, if_neg (by simp [hr, hx])]
/-- What a fault leaves. -/
structure FltV (st S : List Sx) (m : Nat) : Prop where
  len : S.length = st.length
  on : ∀ x : Nat, x < st.length → x = m ∨ UpR st m x → sAt S x = offX (sAt st x)
  off : ∀ x : Nat, ¬ (x = m ∨ UpR st m x) → sAt S x = sAt st x
theorem FltV.of (st : List Sx) (m : Nat) : FltV st (offL st (upL st m st.length ++ [(m : Int)])) m := by
  have hg := fun x : Nat => offL_get (upL st m st.length ++ [(m : Int)]) st x fun y hy => by
    rcases List.mem_append.1 hy with h | h
    · exact upL_nn h
    · simp at h; omega
  refine ⟨offL_len _ _, fun x hx h => ?_, fun x h => ?_⟩
  · rw [hg, if_pos]
    rcases h with rfl | h
    · simp
    · exact List.mem_append_left _ (mem_upL.2 ⟨hx, h⟩)
  · rw [hg, if_neg]
    intro hh
    rcases List.mem_append.1 hh with h1 | h1
    · exact h (.inr (mem_upL.1 h1).2)
    · simp at h1; exact h (.inl (by omega))
theorem FltV.feeds {st S : List Sx} {m : Nat} (A : FltV st S m) {x : Nat} (hx : x < st.length) : (sAt S x).feeds = (sAt st x).feeds ∧ (sAt S x).grain = (sAt st x).grain ∧ ((sAt S x).runs = true → (sAt st x).runs = true) := by
  by_cases h : x = m ∨ UpR st m x
  · rw [A.on x hx h]; exact ⟨rfl, rfl, fun h => by cases h⟩
  · rw [A.off x h]; exact ⟨rfl, rfl, fun h => h⟩
theorem FltV.valid {p : Pl} {st S : List Sx} {m : Nat} (A : FltV st S m) (hok : OkP p) (h : StV p st) : StV p S := by
  have hl := h.len
  have F := fun (x : Nat) (hx : x < p.ms.length) => A.feeds (x := x) (by omega)
  refine ⟨A.len.trans h.len, fun x hx hr => h.run x hx ((F x hx).2.2 hr), fun x hx => by rw [(F x hx).1]; exact h.fd x hx, fun x hx hr => by rw [(F x hx).2.1] at hr ⊢; exact h.gr x hx hr, fun x hx hr => ?_, fun x y hx hy h0 he => by rw [(F x hx).1] at h0 he; rw [(F y hy).1] at he; exact h.uq x y hx hy h0 he, fun x y hx hf hr hc => ?_, fun x y hx hf hk => ?_, fun x y hx hf hk => ?_, fun x y hx hf hk hk2 => ?_⟩
  · rw [(F x hx).1] at hr
    have := h.nr x hx hr
    cases hq : (sAt S x).runs with
    | false => rfl
    | true => rw [(F x hx).2.2 hq] at this; cases this
  · rw [(F x hx).1] at hf
    have h1 : ¬ (x = m ∨ UpR st m x) := fun hh => by rw [A.on x (by omega) hh] at hr; cases hr
    have h2 : ¬ (y = m ∨ UpR st m y) := fun hh => by
      have hxm : (x : Int) ≠ (m : Int) := fun e => h1 (.inl (by omega))
      have hxl : x < st.length := by omega
      have hf' : st[x].feeds = (y : Int) := by rw [sAt, stGet hxl] at hf; exact hf
      rcases hh with e | hu
      · subst e; exact h1 (.inr (.base hxl hxm hf'))
      · exact h1 (.inr (.step hxl hxm hf' hu))
    rw [A.off y h2]
    exact h.fl x y hx hf ((F x hx).2.2 hr) hc
  · rw [(F x hx).1] at hf; rw [(F x hx).2.1]; exact h.g1 x y hx hf hk
  · rw [(F x hx).1] at hf; rw [(F y (h.at_ hok hx hf)).2.1]; exact h.g2 x y hx hf hk
  · rw [(F x hx).1] at hf; rw [(F x hx).2.1, (F y (h.at_ hok hx hf)).2.1]; exact h.g3 x y hx hf hk hk2
end Go.Proofs.YtahpdkkpnkhnhaaGreatDoor

/- Plain: a path that is started and cleaned; a fault and a return to work; stopped and started again. -/
namespace Go.Proofs.YtahpdkkpnkhnhaaGreatDoor
open Go Go.Proofs Go.RowKit Go.Shelf
theorem eqX_of {a b : Sx} (h1 : a.runs = b.runs) (h2 : a.feeds = b.feeds) (h3 : a.grain.toList = b.grain.toList) : eqX a b = true := by
  unfold eqX; rw [h1, h2, h3]; simp
theorem sameB_of : ∀ {a b : List Sx}, a.length = b.length → (∀ x : Nat, x < a.length → eqX (sAt a x) (sAt b x) = true) → sameB a b = true
  | [], [], _, _ => rfl
  | a :: r, b :: s, hl, h => by
    have h0 := h 0 (by simp)
    have ih := sameB_of (a := r) (b := s) (by simpa using hl) fun x hx => by
      have := h (x + 1) (by simpa using hx)
      simpa [sAt] using this
    simp only [sameB, Bool.and_eq_true]
    exact ⟨by simpa [sAt] using h0, ih⟩
  | [], _ :: _, hl, _ => by simp at hl
  | _ :: _, [], hl, _ => by simp at hl
section
variable {p : Pl} {st S : List Sx} {l : List Int} {g : ByteArray}
theorem StartV.set (A : StartV p st S l g) (hl : PaV p l) : setB S l = true := (setB_at hl).2 A.feeds
theorem StartV.runsB (A : StartV p st S l g) (hl : PaV p l) : YtahpdkkpnkhnhaaGreatDoor.runsB p S l = true := by
  unfold YtahpdkkpnkhnhaaGreatDoor.runsB
  rw [List.all_eq_true]
  intro y hy
  obtain ⟨k, hk, rfl⟩ := mem_getD hy
  have e := A.runs k hk
  unfold nAt sAt at e
  unfold runK
  rw [e, (hl.nat hk).1]
  simp
/-- What feeds a machine of a started path: the one before it. -/
theorem StartV.fedBy (A : StartV p st S l g) (hok : OkP p) (h : StV p st) (hl : PaV p l) (hs : ∀ k, k < l.length → StK p st g k (nAt l k)) {x k : Nat} (hx : x < p.ms.length) (hk : k < l.length) (hf : (sAt S x).feeds = (nAt l k : Nat)) : ∃ j, j + 1 = k ∧ x = nAt l j := by
  rcases A.to hok h hl hs hx hf with ⟨j, hj, e1, e2⟩ | ⟨_, a2, _⟩
  · exact ⟨j, hl.ndN _ _ hj hk e2.symm, e1⟩
  · exact absurd rfl (a2 k hk)
theorem StartV.up (A : StartV p st S l g) (hok : OkP p) (h : StV p st) (hl : PaV p l) (hs : ∀ k, k < l.length → StK p st g k (nAt l k)) {k x : Nat} (hk : k < l.length) (hu : UpR S (nAt l k : Nat) x) : ∃ j, j < k ∧ x = nAt l j := by
  have hlen := A.len.trans h.len
  induction hu with
  | @base i hi hne hf =>
    rw [← stGet hi] at hf
    obtain ⟨j, hj, e⟩ := A.fedBy hok h hl hs (by omega) hk hf
    exact ⟨j, by omega, e⟩
  | @step i m hi hne hf hm ih =>
    obtain ⟨j, hj, e⟩ := ih
    rw [← stGet hi, e] at hf
    obtain ⟨j', hj', e'⟩ := A.fedBy hok h hl hs (by omega) (by omega) hf
    exact ⟨j', by omega, e'⟩
/-- The path cleaned: what is left. -/
theorem StartV.cleaned (A : StartV p st S l g) {C : List Sx} (B : StopV p S C l true) (hok : OkP p) (h : StV p st) (hl : PaV p l) (hs : ∀ k, k < l.length → StK p st g k (nAt l k)) (x : Nat) (hx : x < p.ms.length) :
    (sAt C x).runs = (sAt st x).runs ∧ (sAt C x).feeds = (sAt st x).feeds ∧
      (sAt C x).grain.toList = (if (x : Int) ∈ l ∧ cvB (kdA p x) = true then ([] : List UInt8) else if (x : Int) = l.getD (l.length - 1) 0 ∧ kn (kdA p x) = 1 then g.toList else (sAt st x).grain.toList) := by
  have hlen := A.len.trans h.len
  have hpos := hl.two
  rcases hl.cases x with ⟨k, hk, rfl⟩ | hx0
  · have e1 := B.runs k hk
    have e2 := B.grain k hk
    have e3 := A.grain k hk
    have hK := hs k hk
    have hm : (((l.getD k 0).toNat : Nat) : Int) ∈ l := by rw [← (hl.nat hk).1]; exact getD_mem hk
    unfold nAt at e1 e2 e3
    refine ⟨e1.trans hK.run.symm, ?_, ?_⟩
    · by_cases hk1 : k + 1 < l.length
      · exact (B.feeds k hk1).trans (h.neg hok hx hK.fd).symm
      · have e4 := B.fend k (by omega)
        have e5 := A.fend k (by omega)
        unfold nAt at e4 e5
        exact e4.trans (e5.trans (h.neg hok hx hK.fd).symm)
    · rw [e2, e3]
      have hF : ∀ (A : Prop) [Decidable A] (x y : List UInt8), (if A ∧ (false : Bool) = true then x else y) = y := fun A _ x y => if_neg fun h => by cases h.2
      cases hc : cvB (kdA p ((l.getD k 0).toNat : Nat)) with
      | true =>
        show ((⟨#[]⟩ : ByteArray)).toList = _
        rw [noB_list, if_pos ⟨hm, rfl⟩]
      | false =>
        show (if kpB (kdA p ((l.getD k 0).toNat : Nat)) then g else (sAt st (l.getD k 0).toNat).grain).toList = _
        rw [hF]
        by_cases hk1 : k + 1 = l.length
        · rw [show l.length - 1 = k by omega, ← (hl.nat hk).1]
          cases hp : kpB (kdA p (l.getD k 0)) with
          | true =>
            have := hl.spt
            rw [show l.length - 1 = k by omega] at this
            show g.toList = _
            rw [if_pos ⟨rfl, this hp⟩]
          | false =>
            show (sAt st (l.getD k 0).toNat).grain.toList = _
            rw [if_neg]
            rintro ⟨_, h1⟩
            unfold kpB at hp
            rw [h1] at hp; cases hp
        · have hk0 : k = 0 := by
            refine Decidable.byContradiction fun hk0 => ?_
            have := hl.inner k (by omega) (by omega)
            rw [(hl.nat hk).1] at this
            rw [hc] at this; cases this
          subst hk0
          have hno : ¬ ((((l.getD 0 0).toNat : Nat) : Int) = l.getD (l.length - 1) 0 ∧ kn (kdA p ((l.getD 0 0).toNat : Nat)) = 1) := by
            rintro ⟨h1, _⟩
            rw [← (hl.nat hk).1] at h1
            have := hl.nd 0 (l.length - 1) hk (by omega) h1
            omega
          cases hp : kpB (kdA p ((l.getD 0 0).toNat : Nat)) with
          | true =>
            have h1 := hl.pit
            rw [(hl.nat hk).1] at h1
            have h2 := hK.emp rfl (h1 hp)
            show g.toList = _
            rw [if_neg hno]
            rcases hK.gr with h3 | h3
            · rw [h2] at h3; cases h3
            · exact h3.symm
          | false =>
            show (sAt st (l.getD 0 0).toNat).grain.toList = _
            rw [if_neg hno]
  · rw [B.off x hx0, A.off x hx0]
    have hn : ∀ k, k < l.length → (x : Int) ≠ l.getD k 0 := fun k hk e => hx0 k hk (by omega)
    rw [if_neg, if_neg]
    · exact ⟨rfl, rfl, rfl⟩
    · rintro ⟨h1, _⟩; exact hn _ (by omega) h1
    · rintro ⟨h1, _⟩
      obtain ⟨k, hk, e⟩ := mem_getD h1
      exact hn k hk e.symm
/-- The path stopped can be started anew. -/
theorem StartV.restart (A : StartV p st S l g) {C : List Sx} (B : StopV p S C l false) (hok : OkP p) (h : StV p st) (hl : PaV p l) (hs : ∀ k, k < l.length → StK p st g k (nAt l k)) (hg : isName g = true) : ∀ k, k < l.length → StK p C g k (nAt l k) := by
  intro k hk
  have hv := A.valid hok h hl hs hg
  have hx := (hl.nat hk).2
  have hlen := A.len.trans h.len
  have e3 := A.grain k hk
  have e2 := B.grain k hk
  rw [Bool.and_false] at e2
  have hK := hs k hk
  have hge := name_ne hg
  refine ⟨B.runs k hk, ?_, fun x hx e => ?_, fun h0 h1 => ?_, ?_⟩
  · by_cases hk1 : k + 1 < l.length
    · rw [B.feeds k hk1]; omega
    · rw [B.fend k (by omega), A.fend k (by omega)]; omega
  · have hx' : x < p.ms.length := by rw [B.len] at hx; omega
    obtain ⟨t1, t2, _⟩ := B.to hv hl A.feeds hx' e
    obtain ⟨j, hj, e'⟩ := A.fedBy hok h hl hs hx' hk t1
    exact t2 j (by omega) e'.symm
  · rw [e2]
    show (sAt S (nAt l k)).grain.toList.isEmpty = false
    rw [e3]
    have : kpB (kdA p (nAt l k : Nat)) = true := by unfold kpB; rw [h1]; rfl
    rw [this]; exact hge
  · rw [e2]
    show (sAt S (nAt l k)).grain.toList.isEmpty = true ∨ (sAt S (nAt l k)).grain.toList = g.toList
    rw [e3]
    cases hp : kpB (kdA p (nAt l k : Nat)) with
    | true => exact .inr rfl
    | false =>
      left
      cases hq : (sAt st (nAt l k)).grain.toList.isEmpty with
      | true => exact hq
      | false => have := (h.gr _ hx hq).2; unfold nAt at hp; rw [hp] at this; cases this
theorem StartV.again (A : StartV p st S l g) {C D : List Sx} (B : StopV p S C l false) (E : StartV p C D l g) (h : StV p st) (hl : PaV p l) : sameB D S = true := by
  have hlen := A.len.trans h.len
  refine sameB_of (by rw [E.len, B.len]) fun x hx => ?_
  rcases hl.cases x with ⟨k, hk, rfl⟩ | hx0
  · have r1 := E.runs k hk
    have r2 := A.runs k hk
    have g1 := E.grain k hk
    have g2 := A.grain k hk
    have g3 := B.grain k hk
    rw [Bool.and_false] at g3
    refine eqX_of (r1.trans r2.symm) ?_ ?_
    · by_cases hk1 : k + 1 < l.length
      · exact (E.feeds k hk1).trans (A.feeds k hk1).symm
      · exact (E.fend k (by omega)).trans (A.fend k (by omega)).symm
    · show (sAt D (nAt l k)).grain.toList = (sAt S (nAt l k)).grain.toList
      rw [g1, g3]
      cases hp : kpB (kdA p (nAt l k : Nat)) with
      | true => rw [g2, hp]; rfl
      | false => rfl
  · rw [E.off x hx0, B.off x hx0]
    exact eqX_of rfl rfl rfl
/-- A fault of a machine of the path, and the return to work. -/
theorem StartV.back (A : StartV p st S l g) {m : Nat} (hm : m < l.length) {C D : List Sx} (B : FltV S C (nAt l m)) (E : ResV p C D l) (hok : OkP p) (h : StV p st) (hl : PaV p l) (hs : ∀ k, k < l.length → StK p st g k (nAt l k)) : sameB D S = true := by
  have hlen := A.len.trans h.len
  refine sameB_of (by rw [E.len, B.len]) fun x hx => ?_
  have hxl : x < S.length := by rw [E.len, B.len] at hx; exact hx
  obtain ⟨f1, f2, _⟩ := B.feeds hxl
  refine eqX_of ?_ ((E.feeds x).trans f1) (by rw [E.grain, f2])
  rcases hl.cases x with ⟨k, hk, rfl⟩ | hx0
  · exact (E.runs k hk).trans (A.runs k hk).symm
  · rw [E.off x hx0, B.off x]
    rintro (h1 | h1)
    · exact hx0 m hm h1.symm
    · obtain ⟨j, hj, e⟩ := A.up hok h hl hs hm h1
      exact hx0 j (by omega) e.symm
theorem StartV.fltSet (A : StartV p st S l g) {m : Nat} {C : List Sx} (B : FltV S C m) (h : StV p st) (hl : PaV p l) : setB C l = true := by
  have hlen := A.len.trans h.len
  refine (setB_at hl).2 fun k hk => ?_
  rw [(B.feeds (by rw [hlen]; exact (hl.nat (by omega)).2)).1]
  exact A.feeds k hk
theorem StartV.fltRun (A : StartV p st S l g) {k : Nat} (hk : k < l.length) {C : List Sx} (B : FltV S C (nAt l k)) (h : StV p st) (hl : PaV p l) (hc : cvB (kdA p (l.getD k 0)) = true) : YtahpdkkpnkhnhaaGreatDoor.runsB p C l = false := by
  have hlen := A.len.trans h.len
  cases hq : YtahpdkkpnkhnhaaGreatDoor.runsB p C l with
  | false => rfl
  | true =>
    unfold YtahpdkkpnkhnhaaGreatDoor.runsB at hq
    rw [List.all_eq_true] at hq
    have := hq _ (getD_mem hk)
    unfold runK at this
    have e := B.on (nAt l k) (by rw [hlen]; exact (hl.nat hk).2) (.inl rfl)
    unfold sAt nAt at e
    rw [e, hc] at this
    simp [offX] at this
end
end Go.Proofs.YtahpdkkpnkhnhaaGreatDoor

/- Plain: what a command may change; two paths that are set have no machine in common. -/
namespace Go.Proofs.YtahpdkkpnkhnhaaGreatDoor
open Go Go.Proofs Go.RowKit Go.Shelf
/-- What a command of kind kd, on path l with grain g, may do to machine m. -/
structure StepOk (p : Pl) (st S : List Sx) (l : List Int) (g : ByteArray) (kd : Nat) (m : Nat) : Prop where
  on : (sAt S m).grain.toList ≠ (sAt st m).grain.toList → (m : Int) ∈ l
  emp : (sAt S m).grain.toList ≠ (sAt st m).grain.toList → (sAt st m).grain.toList = [] → kd = 0 ∧ (sAt S m).grain.toList = g.toList
  full : (sAt S m).grain.toList ≠ (sAt st m).grain.toList → (sAt st m).grain.toList ≠ [] → (sAt S m).grain.toList = [] ∧ kd = 2 ∧ cvB (kdA p m) = true
  all : eqX (sAt S m) (sAt st m) = true ∨ (m : Int) ∈ l ∨ (kd = 3 ∧ (m : Int) ∈ upL st (l.getD 1 0) st.length)
/-- A state in which no machine but a conveyor is fed and feeds. -/
def OneW (p : Pl) (st : List Sx) : Prop := ∀ x y : Nat, x < p.ms.length → (sAt st x).feeds = (y : Int) → cvB (kdA p y) = false → (sAt st y).feeds < 0
theorem eqX_self (a : Sx) : eqX a a = true := eqX_of rfl rfl rfl
section
variable {p : Pl} {st S : List Sx} {l : List Int} {g g' : ByteArray} {cl : Bool}
theorem PaV.mem (hl : PaV p l) {x : Nat} : (x : Int) ∈ l ↔ ∃ k, k < l.length ∧ nAt l k = x := by
  constructor
  · intro h
    obtain ⟨k, hk, e⟩ := mem_getD h
    exact ⟨k, hk, by unfold nAt; omega⟩
  · rintro ⟨k, hk, e⟩
    have := getD_mem hk
    rw [(hl.nat hk).1] at this
    subst e; exact this
theorem StepOk.off (hl : PaV p l) {m : Nat} (kd : Nat) (h : ¬ (m : Int) ∈ l → sAt S m = sAt st m) (hg : (m : Int) ∈ l → (sAt S m).grain.toList ≠ (sAt st m).grain.toList → ((sAt st m).grain.toList = [] → kd = 0 ∧ (sAt S m).grain.toList = g.toList) ∧ ((sAt st m).grain.toList ≠ [] → (sAt S m).grain.toList = [] ∧ kd = 2 ∧ cvB (kdA p m) = true)) : StepOk p st S l g kd m := by
  by_cases hm : (m : Int) ∈ l
  · exact ⟨fun _ => hm, fun h1 => (hg hm h1).1, fun h1 => (hg hm h1).2, .inr (.inl hm)⟩
  · have e := h hm
    exact ⟨fun h1 => absurd (by rw [e]) h1, fun h1 => absurd (by rw [e]) h1, fun h1 => absurd (by rw [e]) h1, .inl (by rw [e]; exact eqX_self _)⟩
theorem notin (hl : PaV p l) {m : Nat} (h : ¬ (m : Int) ∈ l) : ∀ k, k < l.length → nAt l k ≠ m := fun k hk e => h (hl.mem.2 ⟨k, hk, e⟩)
theorem StartV.step (A : StartV p st S l g) (hl : PaV p l) (hs : ∀ k, k < l.length → StK p st g k (nAt l k)) (m : Nat) : StepOk p st S l g 0 m := by
  refine .off hl 0 (fun h => A.off m (notin hl h)) fun h hne => ?_
  obtain ⟨k, hk, rfl⟩ := hl.mem.1 h
  have e := A.grain k hk
  rw [e] at hne ⊢
  cases hp : kpB (kdA p (nAt l k : Nat)) with
  | false => rw [hp] at hne; exact absurd rfl hne
  | true =>
    rw [hp] at hne
    refine ⟨fun _ => ⟨rfl, rfl⟩, fun h1 => ?_⟩
    rcases (hs k hk).gr with h2 | h2
    · exact absurd (List.isEmpty_iff.1 h2) h1
    · exact absurd h2.symm hne
theorem StopV.step (A : StopV p st S l cl) (hl : PaV p l) (m : Nat) : StepOk p st S l g (if cl then 2 else 1) m := by
  refine .off hl _ (fun h => A.off m (notin hl h)) fun h hne => ?_
  obtain ⟨k, hk, rfl⟩ := hl.mem.1 h
  have e := A.grain k hk
  rw [e] at hne ⊢
  cases cl with
  | false => rw [Bool.and_false] at hne; exact absurd rfl hne
  | true =>
    rw [Bool.and_true] at hne ⊢
    cases hp : cvB (kdA p (nAt l k : Nat)) with
    | false => rw [hp] at hne; exact absurd rfl hne
    | true =>
      have e0 : (if true = true then (⟨#[]⟩ : ByteArray) else (sAt st (nAt l k)).grain).toList = [] := noB_list
      rw [hp, e0] at hne
      rw [e0]
      exact ⟨fun h1 => absurd h1.symm hne, fun _ => ⟨rfl, rfl, rfl⟩⟩
theorem ResV.step (A : ResV p st S l) (hl : PaV p l) (m : Nat) : StepOk p st S l g 4 m :=
  .off hl _ (fun h => A.off m (notin hl h)) fun _ hne => absurd (by rw [A.grain]) hne
theorem FltV.step (A : FltV st S (nAt l 1)) (hl : PaV p l) {m : Nat} (hm : m < st.length) : StepOk p st S l g 3 m := by
  have e := (A.feeds hm).2.1
  refine ⟨fun h1 => absurd (by rw [e]) h1, fun h1 => absurd (by rw [e]) h1, fun h1 => absurd (by rw [e]) h1, ?_⟩
  by_cases h : m = nAt l 1 ∨ UpR st (nAt l 1 : Nat) m
  · rcases h with h | h
    · exact .inr (.inl (hl.mem.2 ⟨1, by have := hl.two; omega, h.symm⟩))
    · refine .inr (.inr ⟨rfl, ?_⟩)
      rw [(hl.nat (by have := hl.two; omega : 1 < l.length)).1]
      exact mem_upL.2 ⟨hm, h⟩
  · rw [A.off m h]; exact .inl (eqX_self _)
theorem StartV.one (A : StartV p st S l g) (hok : OkP p) (h : StV p st) (hl : PaV p l) (hs : ∀ k, k < l.length → StK p st g k (nAt l k)) (ho : OneW p st) : OneW p S := by
  intro x y hx hf hc
  rcases A.to hok h hl hs hx hf with ⟨k, hk, e1, e2⟩ | ⟨a1, a2, a3⟩
  · by_cases hk1 : k + 1 + 1 = l.length
    · rw [e2, A.fend _ hk1]; omega
    · have := hl.inner (k + 1) (by omega) (by omega)
      rw [(hl.nat hk).1] at this
      rw [e2] at hc
      unfold nAt at hc
      rw [hc] at this; cases this
  · rw [A.off y a2]; exact ho x y hx a3 hc
theorem StopV.one (A : StopV p st S l cl) (h : StV p st) (hl : PaV p l) (hs : ∀ k, k + 1 < l.length → (sAt st (nAt l k)).feeds = (nAt l (k + 1) : Nat)) (ho : OneW p st) : OneW p S := by
  intro x y hx hf hc
  have h1 := ho x y hx (A.to h hl hs hx hf).1 hc
  rcases hl.cases y with ⟨k, hk, rfl⟩ | hy0
  · by_cases hk1 : k + 1 < l.length
    · have := A.feeds k hk1; unfold nAt at this; omega
    · have := A.fend k (by omega); unfold nAt at this; omega
  · rw [A.off y hy0]; exact h1
theorem ResV.one (A : ResV p st S l) (ho : OneW p st) : OneW p S := by
  intro x y hx hf hc
  rw [A.feeds] at hf ⊢
  exact ho x y hx hf hc
theorem FltV.one {m : Nat} (A : FltV st S m) (hok : OkP p) (h : StV p st) (ho : OneW p st) : OneW p S := by
  intro x y hx hf hc
  have hl := h.len
  rw [(A.feeds (by omega)).1] at hf
  have hy := h.at_ hok hx hf
  rw [(A.feeds (by omega)).1]
  exact ho x y hx hf hc
end
end Go.Proofs.YtahpdkkpnkhnhaaGreatDoor
