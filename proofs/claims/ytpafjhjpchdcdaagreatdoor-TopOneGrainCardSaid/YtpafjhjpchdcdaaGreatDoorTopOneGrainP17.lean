/- Lemmas on the way to the law TopOneGrain (part 17): YEa YEb YEc -/
import Derived.Test.YtpafjhjpchdcdaaGreatDoorTopOneGrainP16
import Derived.ArgAppend
set_option linter.unusedVariables false
set_option linter.unusedSimpArgs false

/- Plain: flows in a network of nodes, told by what can still pass from a node to another one; cuts. -/
namespace Go.Proofs.YtpafjhjpchdcdaaGreatDoor
def sumF : Nat → (Nat → Int) → Int
  | 0, _ => 0
  | n + 1, f => sumF n f + f n
theorem sumF_congr {n : Nat} {f g : Nat → Int} (h : ∀ v, v < n → f v = g v) : sumF n f = sumF n g := by
  induction n with
  | zero => rfl
  | succ n ih => simp only [sumF]; rw [ih fun v hv => h v (by omega), h n (by omega)]
theorem sumF_zero (n : Nat) : sumF n (fun _ => 0) = 0 := by
  induction n with
  | zero => rfl
  | succ n ih => simp [sumF, ih]
theorem sumF_add (n : Nat) (f g : Nat → Int) : sumF n (fun v => f v + g v) = sumF n f + sumF n g := by
  induction n with
  | zero => rfl
  | succ n ih => simp only [sumF, ih]; omega
theorem sumF_le {n : Nat} {f g : Nat → Int} (h : ∀ v, v < n → f v ≤ g v) : sumF n f ≤ sumF n g := by
  induction n with
  | zero => simp [sumF]
  | succ n ih =>
    have h1 := h n (by omega)
    have h2 := ih fun v hv => h v (by omega)
    simp only [sumF]; omega
theorem sumF_one (n k : Nat) (c : Int) (hk : k < n) : sumF n (fun v => if v = k then c else 0) = c := by
  induction n with
  | zero => omega
  | succ n ih =>
    simp only [sumF]
    by_cases h : n = k
    · subst h
      rw [sumF_congr (g := fun _ => 0) fun v hv => by rw [if_neg (by omega)], sumF_zero]; simp
    · rw [ih (by omega), if_neg h]; simp
theorem sumF_swap (n m : Nat) (f : Nat → Nat → Int) : sumF n (fun i => sumF m fun k => f i k) = sumF m (fun k => sumF n fun i => f i k) := by
  induction n with
  | zero => simp only [sumF]; exact (sumF_zero m).symm
  | succ n ih => simp only [sumF]; rw [ih, ← sumF_add]
structure RFlow (N : Nat) (C R : Nat → Nat → Int) (x : Nat → Int) : Prop where
  nn : ∀ i j, i < N → j < N → 0 ≤ R i j
  sm : ∀ i j, i < N → j < N → R i j + R j i = C i j + C j i
  nt : ∀ i, i < N → sumF N (fun k => C i k - R i k) = x i
theorem RFlow.congr {N : Nat} {C R R' : Nat → Nat → Int} {x x' : Nat → Int} (h : RFlow N C R x) (hR : ∀ i j, i < N → j < N → R' i j = R i j) (hx : ∀ i, i < N → x' i = x i) : RFlow N C R' x' :=
  ⟨fun i j a b => by rw [hR i j a b]; exact h.nn i j a b, fun i j a b => by rw [hR i j a b, hR j i b a]; exact h.sm i j a b, fun i a => by rw [hx i a, ← h.nt i a]; exact sumF_congr fun k hk => by rw [hR i k a hk]⟩
theorem RFlow.start {N : Nat} {C : Nat → Nat → Int} (h : ∀ i j, i < N → j < N → 0 ≤ C i j) : RFlow N C C (fun _ => 0) :=
  ⟨h, fun _ _ _ _ => rfl, fun i _ => by rw [sumF_congr (g := fun _ => 0) fun k _ => Int.sub_self _]; exact sumF_zero N⟩
def pushR (R : Nat → Nat → Int) (u v : Nat) (i j : Nat) : Int := if i = u ∧ j = v then R i j - 1 else if i = v ∧ j = u then R i j + 1 else R i j
theorem RFlow.push {N : Nat} {C R : Nat → Nat → Int} {x : Nat → Int} (h : RFlow N C R x) {u v : Nat} (hu : u < N) (hv : v < N) (huv : u ≠ v) (hr : 0 < R u v) :
    RFlow N C (pushR R u v) (fun i => x i + (if i = u then 1 else 0) - (if i = v then 1 else 0)) := by
  refine ⟨fun i j hi hj => ?_, fun i j hi hj => ?_, fun i hi => ?_⟩
  · have := h.nn i j hi hj
    unfold pushR
    split
    · rename_i e; obtain ⟨rfl, rfl⟩ := e; omega
    · split <;> omega
  · have := h.sm i j hi hj
    unfold pushR
    by_cases a : i = u
    · by_cases b : j = v
      · subst a b; rw [if_pos ⟨rfl, rfl⟩, if_neg (fun h => huv h.2), if_pos ⟨rfl, rfl⟩]; omega
      · rw [if_neg (fun h => b h.2), if_neg (fun h => huv (a.symm.trans h.1)), if_neg (fun h => huv (a.symm.trans h.2)), if_neg (fun h => b h.1)]; exact this
    · by_cases b : i = v
      · by_cases c : j = u
        · subst b c; rw [if_neg (fun h => a h.1), if_pos ⟨rfl, rfl⟩, if_pos ⟨rfl, rfl⟩]; omega
        · rw [if_neg (fun h => a h.1), if_neg (fun h => c h.2), if_neg (fun h => c h.1), if_neg (fun h => a h.2)]; exact this
      · rw [if_neg (fun h => a h.1), if_neg (fun h => b h.1), if_neg (fun h => b h.2), if_neg (fun h => a h.2)]; exact this
  · have e := h.nt i hi
    by_cases a : i = u
    · subst a
      rw [sumF_congr (g := fun k => (C i k - R i k) + (if k = v then 1 else 0)) fun k _ => by
        unfold pushR
        by_cases b : k = v
        · rw [if_pos ⟨rfl, b⟩, if_pos b]; omega
        · rw [if_neg (fun h => b h.2), if_neg (fun h => huv h.1), if_neg b]; omega, sumF_add, e, sumF_one N v 1 hv, if_pos rfl, if_neg huv]; omega
    · by_cases b : i = v
      · subst b
        rw [sumF_congr (g := fun k => (C i k - R i k) + (if k = u then -1 else 0)) fun k _ => by
          unfold pushR
          by_cases c : k = u
          · rw [if_neg (fun h => a h.1), if_pos ⟨rfl, c⟩, if_pos c]; omega
          · rw [if_neg (fun h => a h.1), if_neg (fun h => c h.2), if_neg c]; omega, sumF_add, e, sumF_one N u (-1) hu, if_neg a, if_pos rfl]; omega
      · rw [sumF_congr (g := fun k => C i k - R i k) fun k _ => by
          unfold pushR
          rw [if_neg (fun h => a h.1), if_neg (fun h => b h.1)], e, if_neg a, if_neg b]; omega
def capS (N : Nat) (C : Nat → Nat → Int) (S : Nat → Bool) : Int := sumF N fun i => sumF N fun k => if (S i && !S k) = true then C i k else 0
theorem RFlow.cross {N : Nat} {C R : Nat → Nat → Int} {x : Nat → Int} (h : RFlow N C R x) (S : Nat → Bool) :
    sumF N (fun i => if S i = true then x i else 0) = sumF N fun i => sumF N fun k => if (S i && !S k) = true then C i k - R i k else 0 := by
  have hT : sumF N (fun i => sumF N fun k => if (S i && S k) = true then C i k - R i k else 0) = 0 := by
    have h1 : sumF N (fun i => sumF N fun k => if (S i && S k) = true then C i k - R i k else 0) + sumF N (fun i => sumF N fun k => if (S i && S k) = true then C i k - R i k else 0) = 0 := by
      have e2 : sumF N (fun i => sumF N fun k => if (S i && S k) = true then C i k - R i k else 0) = sumF N (fun i => sumF N fun k => if (S i && S k) = true then C k i - R k i else 0) := by
        rw [sumF_swap]
        exact sumF_congr fun i _ => sumF_congr fun k _ => by rw [Bool.and_comm]
      conv => lhs; lhs; rw [e2]
      rw [← sumF_add]
      refine (sumF_congr fun i hi => ?_).trans (sumF_zero N)
      rw [← sumF_add]
      refine (sumF_congr fun k hk => ?_).trans (sumF_zero N)
      have := h.sm i k hi hk
      split <;> omega
    omega
  have e : sumF N (fun i => if S i = true then x i else 0) = sumF N (fun i => (sumF N fun k => if (S i && S k) = true then C i k - R i k else 0) + sumF N fun k => if (S i && !S k) = true then C i k - R i k else 0) := by
    refine sumF_congr fun i hi => ?_
    rw [← sumF_add]
    cases hS : S i with
    | false =>
      rw [if_neg (by simp)]
      exact ((sumF_congr fun k _ => by simp).trans (sumF_zero N)).symm
    | true =>
      rw [if_pos rfl, ← h.nt i hi]
      exact sumF_congr fun k _ => by cases S k <;> simp
  rw [e, sumF_add, hT]; omega
def valX (s t : Nat) (n : Int) (i : Nat) : Int := (if i = s then n else 0) - (if i = t then n else 0)
theorem sumF_val {N s t : Nat} {n : Int} (hs : s < N) (S : Nat → Bool) (h1 : S s = true) (h2 : S t = false) : sumF N (fun i => if S i = true then valX s t n i else 0) = n := by
  rw [sumF_congr (g := fun i => if i = s then n else 0) fun i _ => by
    unfold valX
    by_cases e : i = t
    · subst e; rw [h2, if_neg (by simp), if_neg (fun e => by rw [e, h1] at h2; cases h2)]
    · by_cases e' : i = s
      · subst e'; rw [h1, if_pos rfl, if_pos rfl, if_neg e]; omega
      · rw [if_neg e', if_neg e]; simp]
  exact sumF_one N s n hs
theorem RFlow.le_cap {N : Nat} {C R : Nat → Nat → Int} {s t : Nat} {n : Int} (h : RFlow N C R (valX s t n)) (hs : s < N) (S : Nat → Bool) (h1 : S s = true) (h2 : S t = false) : n ≤ capS N C S := by
  rw [← sumF_val (n := n) hs S h1 h2, h.cross S]
  exact sumF_le fun i hi => sumF_le fun k hk => by
    have := h.nn i k hi hk
    split <;> omega
theorem valX_push {s t v u : Nat} {n : Int} (i : Nat) : valX s t n i + (if i = v then 1 else 0) - (if i = t then 1 else 0) + (if i = u then 1 else 0) - (if i = v then 1 else 0) = valX s t n i + (if i = u then 1 else 0) - (if i = t then 1 else 0) := by
  generalize valX s t n i = a
  omega
theorem valX_done {s t : Nat} {n : Int} (i : Nat) : valX s t n i + (if i = s then 1 else 0) - (if i = t then 1 else 0) = valX s t (n + 1) i := by
  unfold valX
  split <;> split <;> omega
structure SpR (N : Nat) (R : Nat → Nat → Int) (src : Nat) (bf : List Int) (ord : List Nat) : Prop where
  len : bf.length = N
  hd : src ∈ ord
  nd : ord.Nodup
  lt : ∀ x ∈ ord, x < N
  mem : ∀ x, x < N → (0 ≤ bf.getD x (-1) ↔ x ∈ ord)
  no : ∀ x, x < N → x ∉ ord → bf.getD x (-1) = -1
  at0 : bf.getD src (-1) = src
  tree : ∀ x ∈ ord, x ≠ src → ∃ k : Nat, bf.getD x (-1) = k ∧ k ∈ ord ∧ ord.idxOf k < ord.idxOf x ∧ 0 < R k x
theorem idxOf_oldF {ord : List Nat} {y x : Nat} (h : x ∈ ord) : (ord ++ [y]).idxOf x = ord.idxOf x := by
  rw [List.idxOf_append, if_pos h]
theorem idxOf_newF {ord : List Nat} {y : Nat} (h : y ∉ ord) : (ord ++ [y]).idxOf y = ord.length := by
  rw [List.idxOf_append, if_neg h]; simp
theorem getD_setF (l : List Int) (i j : Nat) (v d : Int) (h : i < l.length) : (l.set i v).getD j d = if i = j then v else l.getD j d := by
  rw [List.getD_eq_getElem?_getD, List.getD_eq_getElem?_getD, List.getElem?_set]
  by_cases e : i = j
  · subst e; simp [h]
  · rw [if_neg e, if_neg e]
theorem SpR.start {N : Nat} (R : Nat → Nat → Int) {src : Nat} (hs : src < N) : SpR N R src ((List.replicate N (-1)).set src (src : Int)) [src] := by
  have hg : ∀ x, ((List.replicate N (-1 : Int)).set src (src : Int)).getD x (-1) = if src = x then (src : Int) else -1 := fun x => by
    rw [getD_setF _ _ _ _ _ (by simpa using hs)]
    congr 1
    rw [List.getD_eq_getElem?_getD, List.getElem?_replicate]
    split <;> rfl
  refine ⟨by simp, by simp, by simp, by simpa using hs, fun x hx => ?_, fun x hx hn => ?_, by rw [hg, if_pos rfl], fun x hx hne => absurd (by simpa using hx) hne⟩
  · rw [hg]
    by_cases e : src = x
    · subst e; simp
    · rw [if_neg e]; simp; omega
  · rw [hg, if_neg (by simp at hn; omega)]
theorem SpR.visit {N : Nat} {R : Nat → Nat → Int} {src : Nat} {bf : List Int} {ord : List Nat} (h : SpR N R src bf ord) {k x : Nat} (hk : k ∈ ord) (hx : x < N) (hn : x ∉ ord) (hr : 0 < R k x) :
    SpR N R src (bf.set x (k : Int)) (ord ++ [x]) := by
  have hg : ∀ y, (bf.set x (k : Int)).getD y (-1) = if x = y then (k : Int) else bf.getD y (-1) := fun y => getD_setF _ _ _ _ _ (by rw [h.len]; exact hx)
  refine ⟨by simp [h.len], by simp [h.hd], ?_, ?_, fun y hy => ?_, fun y hy hny => ?_, ?_, fun y hy hne => ?_⟩
  · rw [List.nodup_append]
    exact ⟨h.nd, by simp, fun a ha b hb e => by simp at hb; subst hb; subst e; exact hn ha⟩
  · intro y hy
    rcases List.mem_append.1 hy with hy | hy
    · exact h.lt y hy
    · simp at hy; omega
  · rw [hg]
    by_cases e : x = y
    · subst e; simp
    · rw [if_neg e, h.mem y hy]; simp [Ne.symm e]
  · rw [hg]
    have e : x ≠ y := fun e => hny (by simp [e])
    rw [if_neg e]
    exact h.no y hy fun hh => hny (by simp [hh])
  · rw [hg, if_neg (fun e : x = src => hn (by rw [e]; exact h.hd))]; exact h.at0
  · rcases List.mem_append.1 hy with hy | hy
    · obtain ⟨k', h1, h2, h3, h4⟩ := h.tree y hy hne
      have e : x ≠ y := fun e => hn (e ▸ hy)
      exact ⟨k', by rw [hg, if_neg e]; exact h1, List.mem_append_left _ h2, by rw [idxOf_oldF h2, idxOf_oldF hy]; exact h3, h4⟩
    · simp at hy; subst hy
      exact ⟨k, by rw [hg, if_pos rfl], List.mem_append_left _ hk, by rw [idxOf_oldF hk, idxOf_newF hn]; exact List.idxOf_lt_length_of_mem hk, hr⟩
theorem SpR.count {N : Nat} {R : Nat → Nat → Int} {src : Nat} {bf : List Int} {ord : List Nat} (h : SpR N R src bf ord) : ord.length ≤ N := by
  have h1 : ord.length ≤ (List.range N).length := h.nd.length_le_of_subset fun x hx => List.mem_range.2 (h.lt x hx)
  simpa using h1
def SpDone (N : Nat) (R : Nat → Nat → Int) (ord : List Nat) (j : Nat) : Prop := ∀ i (h : i < ord.length), i < j → ∀ x, x < N → 0 < R ord[i] x → x ∈ ord
end Go.Proofs.YtpafjhjpchdcdaaGreatDoor
/- Plain: one more path back from the sink; what can still pass, in one row of numbers. -/
namespace Go.Proofs.YtpafjhjpchdcdaaGreatDoor
open Go Go.Proofs Go.RowKit
structure BackR (N : Nat) (C R0 R : Nat → Nat → Int) (ord : List Nat) (src snk : Nat) (n : Int) (v : Nat) : Prop where
  mv : v ∈ ord
  fl : RFlow N C R (fun i => valX src snk n i + (if i = v then 1 else 0) - (if i = snk then 1 else 0))
  sm : ∀ u x, u ∈ ord → x ∈ ord → ord.idxOf u ≤ ord.idxOf v → ord.idxOf x ≤ ord.idxOf v → R u x = R0 u x
theorem BackR.start {N : Nat} {C R0 : Nat → Nat → Int} {ord : List Nat} {src snk : Nat} {n : Int} (h : RFlow N C R0 (valX src snk n)) (hm : snk ∈ ord) : BackR N C R0 R0 ord src snk n snk :=
  ⟨hm, h.congr (fun _ _ _ _ => rfl) fun i _ => by generalize valX src snk n i = a; omega, fun _ _ _ _ _ _ => rfl⟩
theorem BackR.step {N : Nat} {C R0 R : Nat → Nat → Int} {bf : List Int} {ord : List Nat} {src snk : Nat} {n : Int} {v : Nat} (h : BackR N C R0 R ord src snk n v) (hs : SpR N R0 src bf ord) (hne : v ≠ src) :
    ∃ k : Nat, bf.getD v (-1) = k ∧ k < N ∧ k ≠ v ∧ ord.idxOf k < ord.idxOf v ∧ 0 < R k v ∧ BackR N C R0 (pushR R k v) ord src snk n k := by
  obtain ⟨k, h1, h2, h3, h4⟩ := hs.tree v h.mv hne
  have hr : 0 < R k v := by rw [h.sm k v h2 h.mv (Nat.le_of_lt h3) (Nat.le_refl _)]; exact h4
  have hkv : k ≠ v := fun e => by subst e; omega
  refine ⟨k, h1, hs.lt k h2, hkv, h3, hr, h2, (h.fl.push (hs.lt k h2) (hs.lt v h.mv) hkv hr).congr (fun _ _ _ _ => rfl) fun i _ => (valX_push i).symm, fun u x hu hx k1 k2 => ?_⟩
  have hu' : u ≠ v := fun e => by subst e; omega
  have hx' : x ≠ v := fun e => by subst e; omega
  unfold pushR
  rw [if_neg (fun h => hx' h.2), if_neg (fun h => hu' h.1)]
  exact h.sm u x hu hx (by omega) (by omega)
theorem BackR.done {N : Nat} {C R0 R : Nat → Nat → Int} {ord : List Nat} {src snk : Nat} {n : Int} (h : BackR N C R0 R ord src snk n src) : RFlow N C R (valX src snk (n + 1)) :=
  h.fl.congr (fun _ _ _ _ => rfl) fun i _ => (valX_done i).symm
def matR (rm : List Int) (i j : Nat) : Int := rm.getD (i * 130 + j) 0
theorem matR_set {rm : List Int} {u v : Nat} (hl : rm.length = 16900) (hu : u < 130) (hv : v < 130) (c : Int) {i j : Nat} (hj : j < 130) :
    matR (rm.set (u * 130 + v) c) i j = if i = u ∧ j = v then c else matR rm i j := by
  unfold matR
  rw [getD_setF _ _ _ _ _ (by rw [hl]; omega)]
  by_cases h : i = u ∧ j = v
  · obtain ⟨rfl, rfl⟩ := h
    rw [if_pos rfl, if_pos ⟨rfl, rfl⟩]
  · rw [if_neg h, if_neg (fun e => h (by omega))]
theorem matR_push {rm : List Int} {u v : Nat} (hl : rm.length = 16900) (hu : u < 130) (hv : v < 130) (huv : u ≠ v) {i j : Nat} (hj : j < 130) :
    matR ((rm.set (u * 130 + v) (matR rm u v - 1)).set (v * 130 + u) (matR rm v u + 1)) i j = pushR (matR rm) u v i j := by
  rw [matR_set (by rw [List.length_set, hl]) hv hu _ hj, matR_set hl hu hv _ hj]
  unfold pushR
  by_cases a : i = u ∧ j = v
  · obtain ⟨rfl, rfl⟩ := a
    rw [if_neg (fun h => huv h.1), if_pos ⟨rfl, rfl⟩, if_pos ⟨rfl, rfl⟩]
  · rw [if_neg a, if_neg a]
    by_cases b : i = v ∧ j = u
    · rw [if_pos b, if_pos b]; obtain ⟨rfl, rfl⟩ := b; rfl
    · rw [if_neg b, if_neg b]
def setAll (c : Int) (is : List Nat) (l : List Int) : List Int := is.foldl (fun l i => l.set i c) l
theorem setAll_len (c : Int) : ∀ (is : List Nat) (l : List Int), (setAll c is l).length = l.length
  | [], l => rfl
  | i :: is, l => by
    show (setAll c is (l.set i c)).length = _
    rw [setAll_len c is, List.length_set]
theorem setAll_snoc (c : Int) (is : List Nat) (i : Nat) (l : List Int) : setAll c (is ++ [i]) l = (setAll c is l).set i c := by
  unfold setAll; rw [List.foldl_append]; rfl
theorem setAll_get (c : Int) : ∀ (is : List Nat) (l : List Int) (j : Nat), j < l.length → (setAll c is l).getD j 0 = if j ∈ is then c else l.getD j 0
  | [], l, j, _ => by simp [setAll]
  | i :: is, l, j, h => by
    show (setAll c is (l.set i c)).getD j 0 = _
    rw [setAll_get c is _ j (by rw [List.length_set]; exact h)]
    by_cases h1 : j ∈ is
    · rw [if_pos h1, if_pos (by simp [h1])]
    · rw [if_neg h1]
      by_cases h2 : i = j
      · subst h2
        rw [getD_setF _ _ _ _ _ h, if_pos rfl, if_pos (by simp)]
      · rw [if_neg (by simp [h1]; omega), List.getD_eq_getElem?_getD, List.getD_eq_getElem?_getD, List.getElem?_set, if_neg h2]
def ixM (n : Nat) : List Nat := (List.range n).map fun m => (2 * m) * 130 + (2 * m + 1)
def okArc (p : Pl) (src snk : List Int) (a : Ar) : Bool := (cvB (kdA p a.fr) || src.contains a.fr) && (cvB (kdA p a.to) || snk.contains a.to)
def ixA (p : Pl) (src snk : List Int) (k : Nat) : List Nat := ((p.arcs.take k).filter (okArc p src snk)).map fun a => (2 * a.fr.toNat + 1) * 130 + 2 * a.to.toNat
def ixS (n : Nat) (src : List Int) : List Nat := src.map fun m => (2 * n) * 130 + 2 * m.toNat
def ixT (n : Nat) (snk : List Int) : List Nat := snk.map fun m => (2 * m.toNat + 1) * 130 + (2 * n + 1)
def roomL (p : Pl) (src snk : List Int) : List Int :=
  setAll 2 (ixT p.ms.length snk) (setAll 2 (ixS p.ms.length src) (setAll 2 (ixA p src snk p.arcs.length) (setAll 1 (ixM p.ms.length) (List.replicate 16900 0))))
def capC (p : Pl) (src snk : List Int) (i j : Nat) : Int :=
  if i * 130 + j ∈ ixT p.ms.length snk then 2 else if i * 130 + j ∈ ixS p.ms.length src then 2 else if i * 130 + j ∈ ixA p src snk p.arcs.length then 2 else if i * 130 + j ∈ ixM p.ms.length then 1 else 0
theorem roomL_get (p : Pl) (src snk : List Int) {i j : Nat} (hi : i < 130) (hj : j < 130) : matR (roomL p src snk) i j = capC p src snk i j := by
  have h : i * 130 + j < 16900 := by omega
  unfold matR roomL capC
  rw [setAll_get _ _ _ _ (by rw [setAll_len, setAll_len, setAll_len, List.length_replicate]; exact h), setAll_get _ _ _ _ (by rw [setAll_len, setAll_len, List.length_replicate]; exact h), setAll_get _ _ _ _ (by rw [setAll_len, List.length_replicate]; exact h), setAll_get _ _ _ _ (by rw [List.length_replicate]; exact h)]
  have e : (List.replicate 16900 (0 : Int)).getD (i * 130 + j) 0 = 0 := by
    rw [List.getD_eq_getElem?_getD, List.getElem?_replicate, if_pos h]; rfl
  rw [e]
theorem capC_bd (p : Pl) (src snk : List Int) (i j : Nat) : 0 ≤ capC p src snk i j ∧ capC p src snk i j ≤ 2 := by
  unfold capC
  repeat' split
  all_goals omega
end Go.Proofs.YtpafjhjpchdcdaaGreatDoor
/- Walks: the search of what can still pass: its queue, its memory. -/
namespace Go.Proofs.YtpafjhjpchdcdaaGreatDoor
open Go Go.Proofs Go.RowKit Go.Shelf
theorem infoI : (Tryz.prog.info? 3).map (fun i => (i.zero, i.size, i.bytes)) = some (some (.int .i64 0), 1, 8) := by kernel_rfl
def QuR (w : World) (g : Nat) (v : Value) (q : List Nat) : Prop :=
  ∃ off cap cur, v = .slice (some ⟨g, off, none⟩) q.length cap ∧ w.heap[g]? = some (.cells cur 3 (0, 0)) ∧ off + cap ≤ cur.size ∧ q.length ≤ cap ∧ ∀ i (h : i < q.length), cur[off + i]? = some (.int .i64 q[i])
theorem QuR.lt {w : World} {g : Nat} {v : Value} {q : List Nat} (h : QuR w g v q) : g < w.heap.size := by
  obtain ⟨off, cap, cur, _, h2, _⟩ := h
  exact (Array.getElem?_eq_some_iff.1 h2).1
theorem QuR.same {w w' : World} {g : Nat} {v : Value} {q : List Nat} (h : QuR w g v q) (hg : w'.heap[g]? = w.heap[g]?) : QuR w' g v q := by
  obtain ⟨off, cap, cur, h1, h2, h3⟩ := h
  exact ⟨off, cap, cur, h1, hg.trans h2, h3⟩
theorem QuR.later {w w' : World} {g : Nat} {v : Value} {q : List Nat} (h : QuR w g v q) (hb : Below w.heap.size w w') : QuR w' g v q := h.same (hb.block g h.lt)
theorem QuR.other {w : World} {g : Nat} {v : Value} {q : List Nat} (h : QuR w g v q) {a : Addr} (u : Value) (hne : a.block ≠ g) : QuR (w.setCell a u) g v q := h.same (heap_setCell_other w a g u (Ne.symm hne))
theorem QuR.alloc {w : World} {g : Nat} {v : Value} {q : List Nat} (h : QuR w g v q) (o : Obj) : QuR (w.alloc o) g v q := h.same (heap_alloc_old w o h.lt)
theorem QuR.kept {w w' : World} {g : Nat} {v : Value} {q : List Nat} {row : Option Nat} (h : QuR w g v q) (hg : w.grownBy w' row) (hne : some g ≠ row) : QuR w' g v q := h.same (hg.block g h.lt hne)
theorem QuR.lit (w : World) (x : Nat) : QuR (w.alloc (.cells #[.int .i64 x] 3)) w.heap.size (.slice (some ⟨w.heap.size, 0, none⟩) 1 1) [x] :=
  ⟨0, 1, _, rfl, heap_alloc_new w _, by simp, by simp, fun i hi => by obtain rfl : i = 0 := by simpa using hi
                                                                      simp⟩
theorem QuR.form {w : World} {g : Nat} {v : Value} {q : List Nat} (h : QuR w g v q) : ∃ off cap, v = .slice (some ⟨g, off, none⟩) q.length cap ∧ q.length ≤ cap := by
  obtain ⟨off, cap, cur, h1, h2, h3, h4, h5⟩ := h
  exact ⟨off, cap, h1, h4⟩
theorem QuR.head {w : World} {g off cap x n : Nat} {q : List Nat} (h : QuR w g (.slice (some ⟨g, off, none⟩) n cap) (x :: q)) : n = q.length + 1 ∧ q.length + 1 ≤ cap ∧ w.cell? ⟨g, off, none⟩ = some (.int .i64 x) := by
  obtain ⟨off', cap', cur, h1, h2, h3, h4, h5⟩ := h
  simp only [Value.slice.injEq, Option.some.injEq, Addr.mk.injEq, and_true, true_and, List.length_cons] at h1
  obtain ⟨rfl, rfl, rfl⟩ := h1
  refine ⟨rfl, by simpa using h4, ?_⟩
  have := h5 0 (by simp)
  rw [cell_of_row w g off cur 3 (0, 0) h2]
  simpa using this
theorem QuR.tail {w : World} {g off cap x n : Nat} {q : List Nat} (h : QuR w g (.slice (some ⟨g, off, none⟩) n cap) (x :: q)) :
    QuR w g (if cap = 1 then .slice (some ⟨g, off, none⟩) q.length 0 else .slice (some ⟨g, off + 1, none⟩) q.length (cap - 1)) q := by
  obtain ⟨off', cap', cur, h1, h2, h3, h4, h5⟩ := h
  simp only [Value.slice.injEq, Option.some.injEq, Addr.mk.injEq, and_true, true_and, List.length_cons] at h1
  obtain ⟨rfl, rfl, rfl⟩ := h1
  have h4 : q.length + 1 ≤ cap := by simpa using h4
  by_cases hc : cap = 1
  · rw [if_pos hc]
    exact ⟨off, 0, cur, rfl, h2, by omega, by omega, fun i hi => by omega⟩
  · rw [if_neg hc]
    refine ⟨off + 1, cap - 1, cur, rfl, h2, by omega, by omega, fun i hi => ?_⟩
    have := h5 (i + 1) (by simpa using hi)
    rw [show off + 1 + i = off + (i + 1) by omega, this]
    simp
theorem run_append_qu {P : Program} (hT : P.underlying 34 = some (.slice 3)) (hI : (P.info? 3).map (fun i => (i.zero, i.size, i.bytes)) = some (some (.int .i64 0), 1, 8))
    (w : World) (g : Nat) (v : Value) (q : List Nat) (x b : Nat) (t' ty : TypeId) (hq : QuR w g v q) (hx : w.heap[b]? = some (.cells #[.int .i64 x] t' (0, 0))) (hn : q.length ≤ 1000000) :
    ∃ v' w' g', (Builtin.append_ #[34, 34] ty #[v, .slice (some ⟨b, 0, none⟩) 1 1]).run P w = .ok v' w' ∧ QuR w' g' v' (q ++ [x]) ∧ w.grownBy w' (some g) ∧ (g' = g ∨ w.heap.size ≤ g') := by
  obtain ⟨i, hi, hz0, hz1, hz2⟩ := info_parts hI
  obtain ⟨off, cap, cur, rfl, h2, h3, h4, h5⟩ := hq
  have hnews : ∀ (j : Nat) (u : Value), [Value.int .i64 x][j]? = some u → w.cell? ((⟨b, 0, none⟩ : Addr).add j) = some u := fun j u hu => by
    rw [Addr.add_lit, Nat.zero_add, cell_of_row w b j _ t' (0, 0) hx]; simpa using hu
  by_cases hr : q.length + 1 ≤ cap
  · have hlt : off + q.length < cur.size := by omega
    have hrun := run_append_room_cells (P := P) w 34 ty 3 i hT hi g off q.length cap ⟨b, 0, none⟩ 1 1 [.int .i64 x] (by rw [hz1]; rfl) hnews (by simp [Value.oneCell']) hr
      (fun j hj => by
        obtain rfl : j = 0 := by simpa using hj
        rw [hz1, Nat.mul_one, Nat.add_zero, cell_of_row w g _ cur 3 (0, 0) h2, Array.getElem?_eq_getElem hlt]; rfl)
      (fun j hj => frozen_of_row w g _ cur 3 h2)
    rw [hz1, Nat.mul_one] at hrun
    refine ⟨_, _, g, hrun, ⟨off, cap, cur.setIfInBounds (off + q.length) (.int .i64 x), by simp, heap_setCell_same w g _ cur 3 _ h2, by simpa using h3, by simpa using hr, fun i hi => ?_⟩, ⟨rfl, rfl, rfl, by show _ ≤ (w.setCell _ _).heap.size; simp [World.setCell], fun k _ hk => heap_setCell_other w _ k _ (fun e => hk (by rw [e]))⟩, .inl rfl⟩
    have hi' : i < q.length + 1 := by simpa using hi
    by_cases e : i = q.length
    · subst e
      simp [hlt]
    · rw [Array.getElem?_setIfInBounds_ne (by omega), h5 i (by omega), List.getElem_append_left (by omega)]
  · obtain ⟨v', w', hrun, r1, r2⟩ := run_append_arg_grows (P := P) w 34 ty 3 i (.int .i64 0) 1 8 hT hi hz0 hz1 hz2 rfl (by decide) ⟨g, off, none⟩ q.length cap (q.map fun n : Nat => .int .i64 (n : Int)) (by simp)
      (fun j u hu => by
        have hj : j < q.length := by have := (List.getElem?_eq_some_iff.1 hu).1; simpa using this
        rw [Addr.add_lit, cell_of_row w g _ cur 3 (0, 0) h2, h5 j hj]
        rw [List.getElem?_map, List.getElem?_eq_getElem hj] at hu
        exact hu) ⟨b, 0, none⟩ 1 1 [.int .i64 x] rfl hnews (by omega) (by simp [maxLen]; omega) (by omega)
    obtain ⟨hl, hv⟩ := r1
    rcases hv with ⟨_, h0⟩ | ⟨g', cap', cur', rfl, hbg, hg, hnc, hcm, hcs, htake⟩
    · omega
    · have hgg : g' < w'.heap.size := (Array.getElem?_eq_some_iff.1 hg).1
      · refine ⟨_, w', g', hrun, ⟨0, cap', cur', by simp, hg, by omega, by simpa using hnc, fun i hi => ?_⟩, ⟨r2.os, r2.tape, r2.output, r2.size, fun k hk _ => r2.block k hk (by simp)⟩, .inr hbg⟩
        have hi' : i < q.length + 1 := by simpa using hi
        have e : (cur'.toList.take ((q.length + 1) * 1))[i]? = (q.map (fun n : Nat => Value.int .i64 (n : Int)) ++ [.int .i64 x])[i]? := by rw [htake]
        rw [List.getElem?_take, if_pos (by omega)] at e
        rw [Nat.zero_add, ← Array.getElem?_toList, e]
        by_cases e2 : i = q.length
        · subst e2; simp
        · rw [List.getElem?_append_left (by simp; omega), List.getElem?_map, List.getElem?_eq_getElem (by omega), List.getElem_append_left (by omega)]; rfl
theorem wpList_append_qu {P : Program} (hT : P.underlying 34 = some (.slice 3)) (hI : (P.info? 3).map (fun i => (i.zero, i.size, i.bytes)) = some (some (.int .i64 0), 1, 8))
    {w : World} {g : Nat} {v : Value} {q : List Nat} {x b : Nat} {t' : TypeId} (hq : QuR w g v q) (hx : w.heap[b]? = some (.cells #[.int .i64 x] t' (0, 0))) (hn : q.length ≤ 1000000)
    {ops : Array Oper} {rest : List Oper} {o : Oper} {a : Act} {Q : Exit → Act → World → Prop} (hgd : o.guard = none) (s y : Operand)
    (ho : o.op = .call { callee := .builtin .append, args := #[s, y], argTypes := #[34, 34] }) (hs : a.eval s = v) (hy : a.eval y = .slice (some ⟨b, 0, none⟩) 1 1)
    (h : ∀ v' w' g', QuR w' g' v' (q ++ [x]) → w.grownBy w' (some g) → (g' = g ∨ w.heap.size ≤ g') → wpList P ops Q rest (a.put o.dst v') w') : wpList P ops Q (o :: rest) a w := by
  refine wpList_plain hgd fun K hK' => ?_
  obtain ⟨v', w', g', hrun, r1, r2, r3⟩ := run_append_qu hT hI w g v q x b t' o.type hq hx hn
  unfold Oper.wp
  simp [execOp, ho, resolve, invoke, builtin, hs, hy, hrun, Result.andThen]
  exact hK' _ _ (h v' w' g' r1 r2 r3)
end Go.Proofs.YtpafjhjpchdcdaaGreatDoor
