/- Lemmas on the way to the law PathBottlenecks (part 9): Vc -/
import Derived.Test.YtahpdkkpnkhnhaaGreatDoorPathBottlenecksP05
set_option linter.unusedVariables false
set_option linter.unusedSimpArgs false

/- Plain: the network of the reference, as a list of edges; its greatest flow is that of the program. -/
namespace Go.Proofs.YtahpdkkpnkhnhaaGreatDoor
open Go Go.Proofs Go.RowKit Go.Shelf
structure Ed where
  u : Nat
  v : Nat
def ed0 : Ed := ⟨0, 0⟩
def resE : List Ed → List Int → Nat → Nat → Int
  | e :: E, f :: F, i, j => (if e.u = i ∧ e.v = j then 1 - f else 0) + (if e.u = j ∧ e.v = i then f else 0) + resE E F i j
  | _, _, _, _ => 0
def capE : List Ed → Nat → Nat → Int
  | [], _, _ => 0
  | e :: E, i, j => (if e.u = i ∧ e.v = j then 1 else 0) + capE E i j
def FlB (F : List Int) : Prop := ∀ x ∈ F, 0 ≤ x ∧ x ≤ 1
theorem resE_zeros (i j : Nat) : ∀ (E : List Ed), resE E (List.replicate E.length 0) i j = capE E i j
  | [] => rfl
  | e :: E => by
    show (if e.u = i ∧ e.v = j then (1 : Int) - 0 else 0) + (if e.u = j ∧ e.v = i then 0 else 0) + resE E (List.replicate E.length 0) i j = _
    rw [resE_zeros i j E]
    show _ = (if e.u = i ∧ e.v = j then (1 : Int) else 0) + capE E i j
    split <;> split <;> omega
theorem resE_nn {i j : Nat} : ∀ {E : List Ed} {F : List Int}, FlB F → 0 ≤ resE E F i j
  | [], _, _ => by simp [resE]
  | _ :: _, [], _ => by simp [resE]
  | e :: E, f :: F, h => by
    have ih := resE_nn (i := i) (j := j) (E := E) (F := F) fun x hx => h x (by simp [hx])
    have hf := h f (by simp)
    show 0 ≤ (if e.u = i ∧ e.v = j then (1 : Int) - f else 0) + (if e.u = j ∧ e.v = i then f else 0) + resE E F i j
    split <;> split <;> omega
theorem resE_set {i j : Nat} (c : Int) : ∀ {E : List Ed} {F : List Int} {k : Nat} (hk : k < E.length), F.length = E.length →
    resE E (F.set k (F.getD k 0 + c)) i j = resE E F i j + (if E[k].u = i ∧ E[k].v = j then - c else 0) + (if E[k].u = j ∧ E[k].v = i then c else 0)
  | [], _, _, hk, _ => by simp at hk
  | _ :: _, [], _, _, h => by simp at h
  | e :: E, f :: F, 0, _, h => by
    show (if e.u = i ∧ e.v = j then (1 : Int) - (f + c) else 0) + (if e.u = j ∧ e.v = i then f + c else 0) + resE E F i j = (if e.u = i ∧ e.v = j then (1 : Int) - f else 0) + (if e.u = j ∧ e.v = i then f else 0) + resE E F i j + (if e.u = i ∧ e.v = j then - c else 0) + (if e.u = j ∧ e.v = i then c else 0)
    split <;> split <;> omega
  | e :: E, f :: F, k + 1, hk, h => by
    have ih := resE_set (i := i) (j := j) c (E := E) (F := F) (k := k) (by simpa using hk) (by simpa using h)
    show (if e.u = i ∧ e.v = j then (1 : Int) - f else 0) + (if e.u = j ∧ e.v = i then f else 0) + resE E (F.set k (F.getD k 0 + c)) i j = (if e.u = i ∧ e.v = j then (1 : Int) - f else 0) + (if e.u = j ∧ e.v = i then f else 0) + resE E F i j + (if (E[k]'(by simpa using hk)).u = i ∧ (E[k]'(by simpa using hk)).v = j then - c else 0) + (if (E[k]'(by simpa using hk)).u = j ∧ (E[k]'(by simpa using hk)).v = i then c else 0)
    rw [ih]
    omega
theorem resE_get {i j : Nat} : ∀ {E : List Ed} {F : List Int} {k : Nat} (hk : k < E.length), F.length = E.length → FlB F →
    (if E[k].u = i ∧ E[k].v = j then 1 - F.getD k 0 else 0) + (if E[k].u = j ∧ E[k].v = i then F.getD k 0 else 0) ≤ resE E F i j
  | [], _, _, hk, _, _ => by simp at hk
  | _ :: _, [], _, _, h, _ => by simp at h
  | e :: E, f :: F, 0, _, h, hb => by
    have ih := resE_nn (i := i) (j := j) (E := E) (F := F) fun x hx => hb x (by simp [hx])
    show (if e.u = i ∧ e.v = j then (1 : Int) - f else 0) + (if e.u = j ∧ e.v = i then f else 0) ≤ (if e.u = i ∧ e.v = j then (1 : Int) - f else 0) + (if e.u = j ∧ e.v = i then f else 0) + resE E F i j
    omega
  | e :: E, f :: F, k + 1, hk, h, hb => by
    have ih := resE_get (i := i) (j := j) (E := E) (F := F) (k := k) (by simpa using hk) (by simpa using h) fun x hx => hb x (by simp [hx])
    have hf := hb f (by simp)
    show (if (E[k]'(by simpa using hk)).u = i ∧ (E[k]'(by simpa using hk)).v = j then 1 - F.getD k 0 else 0) + (if (E[k]'(by simpa using hk)).u = j ∧ (E[k]'(by simpa using hk)).v = i then F.getD k 0 else 0) ≤ (if e.u = i ∧ e.v = j then (1 : Int) - f else 0) + (if e.u = j ∧ e.v = i then f else 0) + resE E F i j
    refine Int.le_trans ih ?_
    split <;> split <;> omega
theorem resE_zero {i j : Nat} : ∀ {E : List Ed} {F : List Int}, F.length = E.length → FlB F →
    (∀ k (hk : k < E.length), (E[k].u = i → E[k].v = j → 1 ≤ F.getD k 0) ∧ (E[k].u = j → E[k].v = i → F.getD k 0 ≤ 0)) → resE E F i j = 0
  | [], _, _, _, _ => by simp [resE]
  | _ :: _, [], h, _, _ => by simp at h
  | e :: E, f :: F, h, hb, hz => by
    have ih := resE_zero (i := i) (j := j) (E := E) (F := F) (by simpa using h) (fun x hx => hb x (by simp [hx])) fun k hk => hz (k + 1) (by simpa using hk)
    have hf := hb f (by simp)
    obtain ⟨h1, h2⟩ := hz 0 (by simp)
    have h1 : e.u = i → e.v = j → 1 ≤ f := h1
    have h2 : e.u = j → e.v = i → f ≤ 0 := h2
    show (if e.u = i ∧ e.v = j then (1 : Int) - f else 0) + (if e.u = j ∧ e.v = i then f else 0) + resE E F i j = 0
    rw [ih]
    split
    · rename_i a
      have := h1 a.1 a.2
      split
      · rename_i b; have := h2 b.1 b.2; omega
      · omega
    · split
      · rename_i b; have := h2 b.1 b.2; omega
      · omega
theorem capE_nn (i j : Nat) : ∀ (E : List Ed), 0 ≤ capE E i j
  | [] => by simp [capE]
  | e :: E => by
    have := capE_nn i j E
    show 0 ≤ (if e.u = i ∧ e.v = j then (1 : Int) else 0) + capE E i j
    split <;> omega
theorem capE_none {i j : Nat} : ∀ {E : List Ed}, (⟨i, j⟩ : Ed) ∉ E → capE E i j = 0
  | [], _ => rfl
  | e :: E, h => by
    show (if e.u = i ∧ e.v = j then (1 : Int) else 0) + capE E i j = 0
    rw [capE_none (E := E) fun hh => h (by simp [hh]), if_neg]
    · rfl
    · rintro ⟨rfl, rfl⟩; exact h (by simp)
theorem capE_mem {i j : Nat} : ∀ {E : List Ed}, (⟨i, j⟩ : Ed) ∈ E → 1 ≤ capE E i j
  | e :: E, h => by
    show 1 ≤ (if e.u = i ∧ e.v = j then (1 : Int) else 0) + capE E i j
    have := capE_nn i j E
    rcases List.mem_cons.1 h with h1 | h1
    · subst h1; rw [if_pos ⟨rfl, rfl⟩]; omega
    · have := capE_mem h1
      split <;> omega
theorem capE_le {i j : Nat} : ∀ {E : List Ed}, E.Pairwise (fun a b => a ≠ b) → capE E i j ≤ 1
  | [], _ => by simp [capE]
  | e :: E, h => by
    obtain ⟨h1, h2⟩ := List.pairwise_cons.1 h
    have ih := capE_le (i := i) (j := j) h2
    show (if e.u = i ∧ e.v = j then (1 : Int) else 0) + capE E i j ≤ 1
    split
    · rename_i a
      obtain ⟨rfl, rfl⟩ := a
      rw [capE_none fun hh => h1 _ hh rfl]; omega
    · omega
def mE (p : Pl) (src snk : List Int) (i : Nat) : List Ed :=
  (if (cvB (kdA p (i : Int)) || src.contains (i : Int) || snk.contains (i : Int)) = true then [⟨2 * i, 2 * i + 1⟩] else []) ++ (if src.contains (i : Int) = true then [⟨2 * p.ms.length, 2 * i⟩] else []) ++ (if snk.contains (i : Int) = true then [⟨2 * i + 1, 2 * p.ms.length + 1⟩] else [])
def aE (a : Ar) : Ed := ⟨2 * a.fr.toNat + 1, 2 * a.to.toNat⟩
def keepA (src snk : List Int) (a : Ar) : Bool := !snk.contains a.fr && !src.contains a.to
def edgesM (p : Pl) (src snk : List Int) (k : Nat) : List Ed := (List.range k).flatMap (mE p src snk)
def edgesA (p : Pl) (src snk : List Int) (k : Nat) : List Ed := ((p.arcs.take k).filter (keepA src snk)).map aE
def edgesL (p : Pl) (src snk : List Int) : List Ed := edgesM p src snk p.ms.length ++ edgesA p src snk p.arcs.length
theorem edgesM_succ (p : Pl) (src snk : List Int) (k : Nat) : edgesM p src snk (k + 1) = edgesM p src snk k ++ mE p src snk k := by
  unfold edgesM
  rw [List.range_succ, List.flatMap_append]; simp
theorem edgesA_succ (p : Pl) (src snk : List Int) (k : Nat) (h : k < p.arcs.length) : edgesA p src snk (k + 1) = if keepA src snk p.arcs[k] = true then edgesA p src snk k ++ [aE p.arcs[k]] else edgesA p src snk k := by
  unfold edgesA
  rw [take_snoc p.arcs k h, List.filter_append, List.map_append, List.filter_cons, List.filter_nil]
  split
  · rfl
  · simp
theorem mem_mE {p : Pl} {src snk : List Int} {i : Nat} {e : Ed} : e ∈ mE p src snk i ↔ ((cvB (kdA p (i : Int)) = true ∨ (i : Int) ∈ src ∨ (i : Int) ∈ snk) ∧ e = ⟨2 * i, 2 * i + 1⟩) ∨ ((i : Int) ∈ src ∧ e = ⟨2 * p.ms.length, 2 * i⟩) ∨ ((i : Int) ∈ snk ∧ e = ⟨2 * i + 1, 2 * p.ms.length + 1⟩) := by
  unfold mE
  have h1 : (i : Int) ∈ src ↔ src.contains (i : Int) = true := contains_iff.symm
  have h2 : (i : Int) ∈ snk ↔ snk.contains (i : Int) = true := contains_iff.symm
  rw [h1, h2]
  generalize cvB (kdA p (i : Int)) = a
  generalize src.contains (i : Int) = b
  generalize snk.contains (i : Int) = c
  cases a <;> cases b <;> cases c <;> simp
theorem mem_edgesM {p : Pl} {src snk : List Int} {k : Nat} {e : Ed} : e ∈ edgesM p src snk k ↔ ∃ i, i < k ∧ e ∈ mE p src snk i := by
  unfold edgesM
  rw [List.mem_flatMap]
  simp [List.mem_range]
theorem mem_edgesA {p : Pl} {src snk : List Int} {e : Ed} : e ∈ edgesA p src snk p.arcs.length ↔ ∃ a ∈ p.arcs, keepA src snk a = true ∧ e = aE a := by
  unfold edgesA
  rw [List.take_length, List.mem_map]
  constructor
  · rintro ⟨a, ha, rfl⟩
    obtain ⟨h1, h2⟩ := List.mem_filter.1 ha
    exact ⟨a, h1, h2, rfl⟩
  · rintro ⟨a, h1, h2, rfl⟩; exact ⟨a, List.mem_filter.2 ⟨h1, h2⟩, rfl⟩
theorem edges_shape {p : Pl} {src snk : List Int} {u v : Nat} (h : (⟨u, v⟩ : Ed) ∈ edgesL p src snk) :
    (∃ i, i < p.ms.length ∧ (cvB (kdA p (i : Int)) = true ∨ (i : Int) ∈ src ∨ (i : Int) ∈ snk) ∧ u = 2 * i ∧ v = 2 * i + 1) ∨ (∃ i, i < p.ms.length ∧ (i : Int) ∈ src ∧ u = 2 * p.ms.length ∧ v = 2 * i) ∨ (∃ i, i < p.ms.length ∧ (i : Int) ∈ snk ∧ u = 2 * i + 1 ∧ v = 2 * p.ms.length + 1) ∨
    (∃ a ∈ p.arcs, a.fr ∉ snk ∧ a.to ∉ src ∧ u = 2 * a.fr.toNat + 1 ∧ v = 2 * a.to.toNat) := by
  unfold edgesL at h
  rcases List.mem_append.1 h with h | h
  · obtain ⟨i, hi, h⟩ := mem_edgesM.1 h
    rcases mem_mE.1 h with ⟨h1, h2⟩ | ⟨h1, h2⟩ | ⟨h1, h2⟩
    · cases h2; exact .inl ⟨i, hi, h1, rfl, rfl⟩
    · cases h2; exact .inr (.inl ⟨i, hi, h1, rfl, rfl⟩)
    · cases h2; exact .inr (.inr (.inl ⟨i, hi, h1, rfl, rfl⟩))
  · obtain ⟨a, ha, hk, h⟩ := mem_edgesA.1 h
    unfold keepA at hk
    simp only [Bool.and_eq_true, Bool.not_eq_true', List.contains_eq_mem, decide_eq_false_iff_not] at hk
    cases h
    exact .inr (.inr (.inr ⟨a, ha, hk.1, hk.2, rfl, rfl⟩))
theorem mE_nodup {p : Pl} {src snk : List Int} {i : Nat} (h : i < p.ms.length) : (mE p src snk i).Pairwise (fun a b => a ≠ b) := by
  unfold mE
  have h1 : (⟨2 * i, 2 * i + 1⟩ : Ed) ≠ ⟨2 * p.ms.length, 2 * i⟩ := fun e => by injection e with e1 e2; omega
  have h2 : (⟨2 * i, 2 * i + 1⟩ : Ed) ≠ ⟨2 * i + 1, 2 * p.ms.length + 1⟩ := fun e => by injection e with e1 e2; omega
  have h3 : (⟨2 * p.ms.length, 2 * i⟩ : Ed) ≠ ⟨2 * i + 1, 2 * p.ms.length + 1⟩ := fun e => by injection e with e1 e2; omega
  generalize cvB (kdA p (i : Int)) = a
  generalize src.contains (i : Int) = b
  generalize snk.contains (i : Int) = c
  cases a <;> cases b <;> cases c <;> simp [h1, h2, h3]
theorem edgesM_nodup {p : Pl} {src snk : List Int} : ∀ k, k ≤ p.ms.length → (edgesM p src snk k).Pairwise (fun a b => a ≠ b)
  | 0, _ => by simp [edgesM]
  | k + 1, h => by
    rw [edgesM_succ, List.pairwise_append]
    refine ⟨edgesM_nodup k (by omega), mE_nodup (by omega), fun a ha b hb e => ?_⟩
    subst e
    obtain ⟨i, hi, ha⟩ := mem_edgesM.1 ha
    rcases mem_mE.1 ha with ⟨_, h1⟩ | ⟨_, h1⟩ | ⟨_, h1⟩ <;> rcases mem_mE.1 hb with ⟨_, h2⟩ | ⟨_, h2⟩ | ⟨_, h2⟩ <;> (rw [h1] at h2; injection h2 with e1 e2; omega)
theorem edgesL_nodup {p : Pl} (hp : OkP p) {src snk : List Int} : (edgesL p src snk).Pairwise (fun a b => a ≠ b) := by
  unfold edgesL
  rw [List.pairwise_append]
  refine ⟨edgesM_nodup _ (Nat.le_refl _), ?_, fun a ha b hb e => ?_⟩
  · unfold edgesA
    rw [List.take_length, List.pairwise_map]
    refine List.Pairwise.imp_of_mem ?_ (List.nodup_iff_pairwise_ne.1 (hp.nodup.sublist List.filter_sublist))
    intro a b ha hb hab e
    obtain ⟨i1, i2, _⟩ := hp.ins a (List.mem_filter.1 ha).1
    obtain ⟨j1, j2, _⟩ := hp.ins b (List.mem_filter.1 hb).1
    have k1 := (inN_lt i1).2
    have k2 := (inN_lt i2).2
    have k3 := (inN_lt j1).2
    have k4 := (inN_lt j2).2
    unfold aE at e
    injection e with e1 e2
    obtain ⟨a1, a2⟩ := a
    obtain ⟨b1, b2⟩ := b
    dsimp only at k1 k2 k3 k4 e1 e2
    refine hab ?_
    obtain rfl : a1 = b1 := by omega
    obtain rfl : a2 = b2 := by omega
    rfl
  · subst e
    obtain ⟨i, hi, ha⟩ := mem_edgesM.1 ha
    obtain ⟨x, _, _, hb⟩ := mem_edgesA.1 hb
    unfold aE at hb
    rcases mem_mE.1 ha with ⟨_, h1⟩ | ⟨_, h1⟩ | ⟨_, h1⟩ <;> (rw [hb] at h1; injection h1 with e1 e2; omega)
theorem edges_lt {p : Pl} (hp : OkP p) {src snk : List Int} : ∀ e ∈ edgesL p src snk, e.u < 2 * p.ms.length + 2 ∧ e.v < 2 * p.ms.length + 2 ∧ e.u ≠ e.v := by
  intro e he
  obtain ⟨u, v⟩ := e
  rcases edges_shape he with ⟨i, h1, _, h2, h3⟩ | ⟨i, h1, _, h2, h3⟩ | ⟨i, h1, _, h2, h3⟩ | ⟨a, ha, _, _, h2, h3⟩
  · dsimp only; omega
  · dsimp only; omega
  · dsimp only; omega
  · obtain ⟨i1, i2, _⟩ := hp.ins a ha
    have k1 := (inN_lt i1).1
    have k2 := (inN_lt i2).1
    dsimp only; omega
theorem edges_len (p : Pl) (src snk : List Int) : (edgesL p src snk).length ≤ 3 * p.ms.length + p.arcs.length := by
  unfold edgesL
  rw [List.length_append]
  have h1 : ∀ k, (edgesM p src snk k).length ≤ 3 * k := by
    intro k
    induction k with
    | zero => simp [edgesM]
    | succ k ih =>
      rw [edgesM_succ, List.length_append]
      have : (mE p src snk k).length ≤ 3 := by
        unfold mE
        generalize (cvB (kdA p (k : Int)) || src.contains (k : Int) || snk.contains (k : Int)) = a
        generalize src.contains (k : Int) = b
        generalize snk.contains (k : Int) = c
        cases a <;> cases b <;> cases c <;> simp
      omega
  have h2 : (edgesA p src snk p.arcs.length).length ≤ p.arcs.length := by
    unfold edgesA
    rw [List.length_map, List.take_length]
    exact List.length_filter_le _ _
  have := h1 p.ms.length
  omega
structure RefM (p : Pl) (src snk : List Int) (F : List Int) (T : List Nat) (k : Int) : Prop where
  len : F.length = (edgesL p src snk).length
  bd : FlB F
  fl : RFlow (2 * p.ms.length + 2) (capE (edgesL p src snk)) (resE (edgesL p src snk) F) (valX (2 * p.ms.length) (2 * p.ms.length + 1) k)
  s : 2 * p.ms.length ∈ T
  t : 2 * p.ms.length + 1 ∉ T
  cl : ∀ i j, i < 2 * p.ms.length + 2 → j < 2 * p.ms.length + 2 → i ∈ T → j ∉ T → resE (edgesL p src snk) F i j = 0
theorem RFlow.le_of {N : Nat} {C D R : Nat → Nat → Int} {s t : Nat} {n : Int} (h : RFlow N C R (valX s t n)) (hs : s < N) (S : Nat → Bool) (h1 : S s = true) (h2 : S t = false) (hd : ∀ i k, i < N → k < N → C i k - R i k ≤ D i k) : n ≤ capS N D S := by
  rw [← sumF_val (n := n) hs S h1 h2, h.cross S]
  exact sumF_le fun i hi => sumF_le fun k hk => by
    have := hd i k hi hk
    split <;> omega
theorem RefM.dead {p : Pl} {src snk F : List Int} {T : List Nat} {k : Int} (h : RefM p src snk F T k) {i : Nat} (hi : i < 2 * p.ms.length) :
    ((∀ j, (⟨j, i⟩ : Ed) ∉ edgesL p src snk) → ∀ j, j < 2 * p.ms.length + 2 → capE (edgesL p src snk) i j - resE (edgesL p src snk) F i j ≤ 0) ∧
    ((∀ j, (⟨i, j⟩ : Ed) ∉ edgesL p src snk) → ∀ j, j < 2 * p.ms.length + 2 → capE (edgesL p src snk) j i - resE (edgesL p src snk) F j i ≤ 0) := by
  have hs : sumF (2 * p.ms.length + 2) (fun k => capE (edgesL p src snk) i k - resE (edgesL p src snk) F i k) = 0 := by
    rw [h.fl.nt i (by omega)]
    unfold valX
    rw [if_neg (by omega), if_neg (by omega)]; rfl
  refine ⟨fun hn j hj => ?_, fun hn j hj => ?_⟩
  · have h1 := sumF_get (n := 2 * p.ms.length + 2) (f := fun k => capE (edgesL p src snk) i k - resE (edgesL p src snk) F i k) (fun v hv => by
      have h2 := h.fl.nn v i hv (by omega)
      have h3 := h.fl.sm i v (by omega) hv
      rw [capE_none (hn v)] at h3
      show 0 ≤ _ - _
      omega) hj
    rw [hs] at h1
    exact h1
  · have h1 := sumF_get (n := 2 * p.ms.length + 2) (f := fun k => - (capE (edgesL p src snk) i k - resE (edgesL p src snk) F i k)) (fun v hv => by
      have h2 := h.fl.nn i v (by omega) hv
      show 0 ≤ - (_ - _)
      rw [capE_none (hn v)]
      omega) hj
    rw [sumF_neg, hs] at h1
    have h3 := h.fl.sm i j (by omega) hj
    omega
theorem ref_le {p : Pl} {src snk F : List Int} {T : List Nat} {k : Int} (hp : OkP p) (he : OkE p src snk) (h : RefM p src snk F T k) {i j : Nat} (hi : i < 2 * p.ms.length + 2) (hj : j < 2 * p.ms.length + 2) :
    capE (edgesL p src snk) i j - resE (edgesL p src snk) F i j ≤ capC p src snk i j := by
  have h1 := h.fl.nn i j hi hj
  have h2 := capE_le (i := i) (j := j) (edgesL_nodup hp (src := src) (snk := snk))
  have h0 := (capC_bd p src snk i j).1
  have hle := hp.le
  by_cases hm : (⟨i, j⟩ : Ed) ∈ edgesL p src snk
  · rcases edges_shape hm with ⟨m, m1, _, rfl, rfl⟩ | ⟨m, m1, m2, rfl, rfl⟩ | ⟨m, m1, m2, rfl, rfl⟩ | ⟨a, ha, a1, a2, rfl, rfl⟩
    · rw [capC_one hp he m1]; omega
    · have := capC_two hp he (by omega) (CapK.s (p := p) (snk := snk) m2) (fun k hk e => by omega)
      rw [Int.toNat_natCast] at this
      omega
    · have := capC_two hp he (by omega) (CapK.t (p := p) (src := src) m2) (fun k hk e => by omega)
      rw [Int.toNat_natCast] at this
      omega
    · cases hk : okArc p src snk a with
      | true =>
        have := capC_two hp he (by omega) (CapK.a ha hk) (fun k hk e => by omega)
        omega
      | false =>
        obtain ⟨i1, i2, i3, _⟩ := hp.ins a ha
        obtain ⟨k1, k2⟩ := inN_lt i1
        obtain ⟨k3, k4⟩ := inN_lt i2
        unfold okArc at hk
        rw [Bool.and_eq_false_iff] at hk
        refine Int.le_trans ?_ h0
        rcases hk with hk | hk
        · simp only [Bool.or_eq_false_iff, List.contains_eq_mem, decide_eq_false_iff_not] at hk
          refine (h.dead (i := 2 * a.fr.toNat + 1) (by omega)).1 (fun v hv => ?_) _ hj
          rcases edges_shape hv with ⟨m, m1, m3, m4, m5⟩ | ⟨m, m1, m2, m4, m5⟩ | ⟨m, m1, m2, m4, m5⟩ | ⟨x, hx, x1, x2, m4, m5⟩
          · have : m = a.fr.toNat := by omega
            rw [this, k2] at m3
            rcases m3 with m3 | m3 | m3
            · rw [hk.1] at m3; cases m3
            · exact hk.2 m3
            · exact a1 m3
          · omega
          · omega
          · omega
        · simp only [Bool.or_eq_false_iff, List.contains_eq_mem, decide_eq_false_iff_not] at hk
          refine (h.dead (i := 2 * a.to.toNat) (by omega)).2 (fun v hv => ?_) _ hi
          rcases edges_shape hv with ⟨m, m1, m3, m4, m5⟩ | ⟨m, m1, m2, m4, m5⟩ | ⟨m, m1, m2, m4, m5⟩ | ⟨x, hx, x1, x2, m4, m5⟩
          · have : m = a.to.toNat := by omega
            rw [this, k4] at m3
            rcases m3 with m3 | m3 | m3
            · rw [hk.1] at m3; cases m3
            · exact a2 m3
            · exact hk.2 m3
          · omega
          · omega
          · omega
  · rw [capE_none hm]; omega
theorem prog_le {p : Pl} {src snk : List Int} {R : Nat → Nat → Int} {n : Int} (h : FlP p src snk R n) {i j : Nat} (hi : i < 2 * p.ms.length + 2) (hj : j < 2 * p.ms.length + 2) : capC p src snk i j - R i j ≤ capE (edgesL p src snk) i j := by
  have h0 := capE_nn i j (edgesL p src snk)
  apply Classical.byContradiction
  intro hc
  have h1 : 1 ≤ FlP.ph p src snk R i j := by unfold FlP.ph; omega
  have hs := h.shape hi hj h1
  have h2 := h.ph_one hi hj hs
  have h3 : ¬ ((⟨i, j⟩ : Ed) ∈ edgesL p src snk) := fun hm => by
    have := capE_mem hm
    unfold FlP.ph at h2
    omega
  refine h3 ?_
  unfold edgesL
  cases hs with
  | @t m hm =>
    obtain ⟨k1, k2⟩ := inN_lt (h.e.in2 m hm)
    exact List.mem_append_left _ (mem_edgesM.2 ⟨m.toNat, k1, mem_mE.2 (.inr (.inr ⟨by rw [k2]; exact hm, rfl⟩))⟩)
  | @s m hm =>
    obtain ⟨k1, k2⟩ := inN_lt (h.e.in1 m hm)
    exact List.mem_append_left _ (mem_edgesM.2 ⟨m.toNat, k1, mem_mE.2 (.inr (.inl ⟨by rw [k2]; exact hm, rfl⟩))⟩)
  | @a a ha hk =>
    refine List.mem_append_right _ (mem_edgesA.2 ⟨a, ha, ?_, rfl⟩)
    have h4 := h.arc_src hk
    unfold okArc at hk
    simp only [Bool.and_eq_true, Bool.or_eq_true, contains_iff] at hk
    unfold keepA
    simp only [Bool.and_eq_true, Bool.not_eq_true', List.contains_eq_mem, decide_eq_false_iff_not]
    refine ⟨fun hh => ?_, h4⟩
    rcases hk.1 with h5 | h5
    · have := en_cvR (h.e.k2 _ hh)
      rw [h5] at this; cases this
    · exact h.e.ne _ hh h5
  | @m m hm =>
    refine List.mem_append_left _ (mem_edgesM.2 ⟨m, hm, mem_mE.2 (.inl ⟨?_, rfl⟩)⟩)
    have ht := (h.thr hm).1
    rw [ht] at h1
    have h5 := h.in_sum hm
    obtain ⟨k, hk, h6⟩ := sumF_ex (show 1 ≤ _ by rw [h5]; exact h1)
    by_cases e : k = 2 * m + 1
    · rw [if_pos e] at h6; omega
    rw [if_neg e] at h6
    have hs := h.shape hk (by omega) h6
    generalize hy : 2 * m = y at hs
    cases hs with
    | t hx => omega
    | @s x hx =>
      have := (inN_lt (h.e.in1 x hx)).2
      obtain rfl : x = (m : Int) := by omega
      exact .inr (.inl hx)
    | @a a ha hok =>
      obtain ⟨fr, to⟩ := a
      obtain ⟨b1, b2, b3, b4, b5⟩ := h.arc_at ha
      dsimp only at hy
      obtain rfl : to = (m : Int) := by omega
      unfold okArc at hok
      simp only [Bool.and_eq_true, Bool.or_eq_true, contains_iff] at hok
      rcases hok.2 with h7 | h7
      · exact .inl h7
      · exact .inr (.inr h7)
    | m hx => omega
theorem ref_most {p : Pl} {src snk F : List Int} {T ord : List Nat} {k n : Int} {R : Nat → Nat → Int} (h : FlP p src snk R n) (hc : ClsR p R ord) (hr : RefM p src snk F T k) : k = n := by
  have h1 : n ≤ k := by
    rw [hr.fl.eq_cap (by omega) (fun v => decide (v ∈ T)) (decide_eq_true hr.s) (decide_eq_false hr.t) (fun i k hi hk h1 h2 => hr.cl i k hi hk (of_decide_eq_true h1) (of_decide_eq_false h2))]
    exact h.f.le_of (by omega) _ (decide_eq_true hr.s) (decide_eq_false hr.t) fun i k hi hk => prog_le h hi hk
  have h2 : k ≤ n := by
    rw [h.f.eq_cap (by omega) (fun v => decide (v ∈ ord)) (decide_eq_true hc.s) (decide_eq_false hc.t) (fun i k hi hk h1 h2 => hc.cl i k hi hk (of_decide_eq_true h1) (of_decide_eq_false h2))]
    exact hr.fl.le_of (by omega) _ (decide_eq_true hc.s) (decide_eq_false hc.t) fun i k hi hk => ref_le h.pk h.e hr hi hk
  omega
end Go.Proofs.YtahpdkkpnkhnhaaGreatDoor
