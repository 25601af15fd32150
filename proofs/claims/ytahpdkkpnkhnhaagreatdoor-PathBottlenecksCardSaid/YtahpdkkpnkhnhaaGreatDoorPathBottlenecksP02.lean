/- Lemmas on the way to the law PathBottlenecks (part 2): Va Kd Ke Kh -/
import Derived.Test.YtahpdkkpnkhnhaaGreatDoorBA25
import Derived.Test.YtahpdkkpnkhnhaaGreatDoorPathBottlenecksP01
import Derived.Test.YtahpdkkpnkhnhaaGreatDoorBA28
import Derived.Test.YtahpdkkpnkhnhaaGreatDoorBA29
set_option linter.unusedVariables false
set_option linter.unusedSimpArgs false

/- Plain: what the greatest flow says of machines. -/
namespace Go.Proofs.YtahpdkkpnkhnhaaGreatDoor
open Go Go.Proofs Go.RowKit Go.Shelf
theorem sumF_off (n : Nat) (f : Nat → Int) (k : Nat) (hk : k < n) : sumF n f = f k + sumF n (fun v => if v = k then 0 else f v) := by
  have h := sumF_add n (fun v => if v = k then f k else 0) (fun v => if v = k then 0 else f v)
  rw [sumF_one n k _ hk] at h
  rw [← h]
  exact sumF_congr fun v _ => by
    by_cases e : v = k
    · subst e; simp
    · simp [e]
theorem sumF_two {n : Nat} {f : Nat → Int} (h : ∀ v, v < n → 0 ≤ f v) {i j : Nat} (hi : i < n) (hj : j < n) (hij : i ≠ j) (h1 : 1 ≤ f i) (h2 : 1 ≤ f j) : 2 ≤ sumF n f := by
  rw [sumF_off n f i hi]
  have h5 : (if j = i then (0 : Int) else f j) ≤ sumF n (fun v => if v = i then 0 else f v) := sumF_get (n := n) (f := fun v => if v = i then 0 else f v) (fun v hv => by
    show 0 ≤ (if v = i then (0 : Int) else f v)
    split
    · exact Int.le_refl _
    · exact h v hv) hj
  rw [if_neg (fun e => hij e.symm)] at h5
  omega
theorem sumF_ex {n : Nat} {f : Nat → Int} (h : 1 ≤ sumF n f) : ∃ k, k < n ∧ 1 ≤ f k := by
  apply Classical.byContradiction
  intro hc
  have : sumF n f ≤ sumF n (fun _ => 0) := sumF_le fun v hv => by
    apply Classical.byContradiction
    intro h2
    exact hc ⟨v, hv, by omega⟩
  rw [sumF_zero] at this
  omega
theorem sumF_neg (n : Nat) (f : Nat → Int) : sumF n (fun v => - f v) = - sumF n f := by
  induction n with
  | zero => rfl
  | succ n ih => simp only [sumF, ih]; omega
theorem sumF_list {n : Nat} : ∀ (ks : List Nat) (f : Nat → Int), ks.Nodup → (∀ k ∈ ks, k < n) → (∀ v, v < n → v ∉ ks → f v = 0) → sumF n f = (ks.map f).sum
  | [], f, _, _, h => by rw [sumF_congr (g := fun _ => 0) fun v hv => h v hv (by simp)]; exact sumF_zero n
  | k :: ks, f, hn, hl, h => by
    obtain ⟨h1, h2⟩ := List.nodup_cons.1 hn
    have ih := sumF_list ks (fun v => if v = k then 0 else f v) h2 (fun x hx => hl x (by simp [hx])) (fun v hv hx => by
      show (if v = k then (0 : Int) else f v) = 0
      by_cases e : v = k
      · rw [if_pos e]
      · rw [if_neg e]; exact h v hv (by simp [e, hx]))
    have e : ks.map (fun v => if v = k then (0 : Int) else f v) = ks.map f := List.map_congr_left fun x hx => if_neg (fun e : x = k => h1 (by rw [← e]; exact hx))
    rw [sumF_off n f k (hl k (by simp)), ih, e, List.map_cons, List.sum_cons]
inductive CapK (p : Pl) (src snk : List Int) : Nat → Nat → Prop
  | t {m : Int} : m ∈ snk → CapK p src snk (2 * m.toNat + 1) (2 * p.ms.length + 1)
  | s {m : Int} : m ∈ src → CapK p src snk (2 * p.ms.length) (2 * m.toNat)
  | a {a : Ar} : a ∈ p.arcs → okArc p src snk a = true → CapK p src snk (2 * a.fr.toNat + 1) (2 * a.to.toNat)
  | m {m : Nat} : m < p.ms.length → CapK p src snk (2 * m) (2 * m + 1)
theorem inN_lt {n : Nat} {x : Int} (h : inN n x = true) : x.toNat < n ∧ (x.toNat : Int) = x := by
  obtain ⟨k, rfl, hk⟩ := inN_nat h
  exact ⟨by omega, by omega⟩
theorem mem_ixT {n : Nat} {l : List Int} (hn : n ≤ 64) {i j : Nat} (hj : j < 130) : i * 130 + j ∈ ixT n l ↔ ∃ m ∈ l, i = 2 * m.toNat + 1 ∧ j = 2 * n + 1 := by
  unfold ixT
  rw [List.mem_map]
  constructor
  · rintro ⟨m, hm, e⟩; exact ⟨m, hm, by omega, by omega⟩
  · rintro ⟨m, hm, rfl, rfl⟩; exact ⟨m, hm, rfl⟩
theorem mem_ixS {n : Nat} {l : List Int} (hn : n ≤ 64) (hl : ∀ x ∈ l, inN n x = true) {i j : Nat} (hj : j < 130) : i * 130 + j ∈ ixS n l ↔ ∃ m ∈ l, i = 2 * n ∧ j = 2 * m.toNat := by
  unfold ixS
  rw [List.mem_map]
  constructor
  · rintro ⟨m, hm, e⟩
    have := (inN_lt (hl m hm)).1
    exact ⟨m, hm, by omega, by omega⟩
  · rintro ⟨m, hm, rfl, rfl⟩; exact ⟨m, hm, rfl⟩
theorem mem_ixA {p : Pl} (hp : OkP p) {src snk : List Int} {i j : Nat} (hj : j < 130) : i * 130 + j ∈ ixA p src snk p.arcs.length ↔ ∃ a ∈ p.arcs, okArc p src snk a = true ∧ i = 2 * a.fr.toNat + 1 ∧ j = 2 * a.to.toNat := by
  unfold ixA
  rw [List.take_length, List.mem_map]
  have hle := hp.le
  constructor
  · rintro ⟨a, ha, e⟩
    obtain ⟨h1, h2⟩ := List.mem_filter.1 ha
    have := (inN_lt (hp.ins a h1).2.1).1
    exact ⟨a, h1, h2, by omega, by omega⟩
  · rintro ⟨a, h1, h2, rfl, rfl⟩; exact ⟨a, List.mem_filter.2 ⟨h1, h2⟩, rfl⟩
theorem mem_ixM {n : Nat} (hn : n ≤ 64) {i j : Nat} (hj : j < 130) : i * 130 + j ∈ ixM n ↔ ∃ m, m < n ∧ i = 2 * m ∧ j = 2 * m + 1 := by
  unfold ixM
  rw [List.mem_map]
  constructor
  · rintro ⟨m, hm, e⟩
    have := List.mem_range.1 hm
    exact ⟨m, this, by omega, by omega⟩
  · rintro ⟨m, hm, rfl, rfl⟩; exact ⟨m, List.mem_range.2 hm, rfl⟩
section
variable {p : Pl} {src snk : List Int}
theorem capC_shape (hp : OkP p) (he : OkE p src snk) {i j : Nat} (hj : j < 130) (h : 1 ≤ capC p src snk i j) : CapK p src snk i j := by
  have hle := hp.le
  unfold capC at h
  split at h
  · rename_i h1
    obtain ⟨m, hm, rfl, rfl⟩ := (mem_ixT hle hj).1 h1
    exact .t hm
  · split at h
    · rename_i h1
      obtain ⟨m, hm, rfl, rfl⟩ := (mem_ixS hle he.in1 hj).1 h1
      exact .s hm
    · split at h
      · rename_i h1
        obtain ⟨a, k1, k2, rfl, rfl⟩ := (mem_ixA hp hj).1 h1
        exact .a k1 k2
      · split at h
        · rename_i h1
          obtain ⟨m, hm, rfl, rfl⟩ := (mem_ixM hle hj).1 h1
          exact .m hm
        · omega
theorem capC_two (hp : OkP p) (he : OkE p src snk) {i j : Nat} (hj : j < 130) (h : CapK p src snk i j) (hm : ∀ m : Nat, m < p.ms.length → ¬ (i = 2 * m ∧ j = 2 * m + 1)) : capC p src snk i j = 2 := by
  have hle := hp.le
  unfold capC
  cases h with
  | t h1 => rw [if_pos ((mem_ixT hle hj).2 ⟨_, h1, rfl, rfl⟩)]
  | s h1 =>
    split
    · rfl
    · rw [if_pos ((mem_ixS hle he.in1 hj).2 ⟨_, h1, rfl, rfl⟩)]
  | a h1 h2 =>
    split
    · rfl
    · split
      · rfl
      · rw [if_pos ((mem_ixA hp hj).2 ⟨_, h1, h2, rfl, rfl⟩)]
  | m h1 => exact absurd ⟨rfl, rfl⟩ (hm _ h1)
theorem capC_one (hp : OkP p) (he : OkE p src snk) {m : Nat} (h : m < p.ms.length) : capC p src snk (2 * m) (2 * m + 1) = 1 := by
  have hle := hp.le
  have hj : 2 * m + 1 < 130 := by omega
  unfold capC
  rw [if_neg, if_neg, if_neg, if_pos ((mem_ixM hle hj).2 ⟨m, h, rfl, rfl⟩)]
  · rw [mem_ixA hp hj]; rintro ⟨_, _, _, h1, h2⟩; omega
  · rw [mem_ixS hle he.in1 hj]; rintro ⟨_, _, h1, h2⟩; omega
  · rw [mem_ixT hle hj]; rintro ⟨_, _, h1, h2⟩; omega
end
structure FlP (p : Pl) (src snk : List Int) (R : Nat → Nat → Int) (n : Int) : Prop where
  pk : OkP p
  e : OkE p src snk
  f : RFlow (2 * p.ms.length + 2) (capC p src snk) R (valX (2 * p.ms.length) (2 * p.ms.length + 1) n)
namespace FlP
variable {p : Pl} {src snk : List Int} {R : Nat → Nat → Int} {n : Int}
def ph (p : Pl) (src snk : List Int) (R : Nat → Nat → Int) (i j : Nat) : Int := capC p src snk i j - R i j
theorem le (h : FlP p src snk R n) {i j : Nat} (hi : i < 2 * p.ms.length + 2) (hj : j < 2 * p.ms.length + 2) : ph p src snk R i j ≤ capC p src snk i j := by
  have := h.f.nn i j hi hj
  unfold ph; omega
theorem anti (h : FlP p src snk R n) {i j : Nat} (hi : i < 2 * p.ms.length + 2) (hj : j < 2 * p.ms.length + 2) : ph p src snk R j i = - ph p src snk R i j := by
  have := h.f.sm i j hi hj
  unfold ph; omega
theorem shape (h : FlP p src snk R n) {i j : Nat} (hi : i < 2 * p.ms.length + 2) (hj : j < 2 * p.ms.length + 2) (hp : 1 ≤ ph p src snk R i j) : CapK p src snk i j := by
  have := h.le hi hj
  have := h.pk.le
  exact capC_shape h.pk h.e (by omega) (by omega)
theorem nnOf (h : FlP p src snk R n) {i j : Nat} (hi : i < 2 * p.ms.length + 2) (hj : j < 2 * p.ms.length + 2) (hn : ¬ CapK p src snk j i) : 0 ≤ ph p src snk R i j := by
  apply Classical.byContradiction
  intro hc
  have := h.anti hi hj
  exact hn (h.shape hj hi (by omega))
theorem cap_in (h : FlP p src snk R n) {b k : Nat} (hb : b < p.ms.length) (hc : CapK p src snk (2 * b) k) : k = 2 * b + 1 := by
  generalize hi : 2 * b = i at hc
  cases hc with
  | t h1 => omega
  | s h1 => omega
  | a h1 h2 => omega
  | m h1 => omega
theorem cap_out (h : FlP p src snk R n) {b k : Nat} (hb : b < p.ms.length) (hc : CapK p src snk k (2 * b + 1)) : k = 2 * b := by
  generalize hi : 2 * b + 1 = i at hc
  cases hc with
  | t h1 => omega
  | s h1 => omega
  | a h1 h2 => omega
  | m h1 => omega
theorem no_self (h : FlP p src snk R n) {b : Nat} (hb : b < p.ms.length) : ¬ CapK p src snk (2 * b + 1) (2 * b) := by
  intro hc
  generalize hi : 2 * b + 1 = i at hc
  generalize hj : 2 * b = j at hc
  cases hc with
  | t h1 => omega
  | s h1 => omega
  | a h1 h2 =>
    obtain ⟨i1, i2, i3, _⟩ := h.pk.ins _ h1
    have := (inN_lt i1).2
    have := (inN_lt i2).2
    exact i3 (by omega)
  | m h1 => omega
theorem thr (h : FlP p src snk R n) {b : Nat} (hb : b < p.ms.length) : ph p src snk R (2 * b) (2 * b + 1) = R (2 * b + 1) (2 * b) ∧ 0 ≤ R (2 * b + 1) (2 * b) ∧ R (2 * b + 1) (2 * b) ≤ 1 := by
  have h1 := h.f.nn (2 * b + 1) (2 * b) (by omega) (by omega)
  have h2 := h.le (i := 2 * b) (j := 2 * b + 1) (by omega) (by omega)
  have h3 := h.anti (i := 2 * b + 1) (j := 2 * b) (by omega) (by omega)
  have h4 := capC_one h.pk h.e hb
  have h5 := (capC_bd p src snk (2 * b + 1) (2 * b)).1
  have h6 : ¬ (1 ≤ capC p src snk (2 * b + 1) (2 * b)) := fun hc => h.no_self hb (capC_shape h.pk h.e (by have := h.pk.le; omega) hc)
  have h7 : ph p src snk R (2 * b + 1) (2 * b) = capC p src snk (2 * b + 1) (2 * b) - R (2 * b + 1) (2 * b) := rfl
  omega
theorem in_nn (h : FlP p src snk R n) {b k : Nat} (hb : b < p.ms.length) (hk : k < 2 * p.ms.length + 2) (hne : k ≠ 2 * b + 1) : 0 ≤ ph p src snk R k (2 * b) :=
  h.nnOf hk (by omega) fun hc => hne (h.cap_in hb hc)
theorem out_nn (h : FlP p src snk R n) {b k : Nat} (hb : b < p.ms.length) (hk : k < 2 * p.ms.length + 2) (hne : k ≠ 2 * b) : 0 ≤ ph p src snk R (2 * b + 1) k :=
  h.nnOf (by omega) hk fun hc => hne (h.cap_out hb hc)
theorem in_sum (h : FlP p src snk R n) {b : Nat} (hb : b < p.ms.length) : sumF (2 * p.ms.length + 2) (fun k => if k = 2 * b + 1 then 0 else ph p src snk R k (2 * b)) = R (2 * b + 1) (2 * b) := by
  have h1 := h.f.nt (2 * b) (by omega)
  have h2 : valX (2 * p.ms.length) (2 * p.ms.length + 1) n (2 * b) = 0 := by
    unfold valX
    rw [if_neg (by omega), if_neg (by omega)]; rfl
  rw [h2, sumF_off _ _ (2 * b + 1) (by omega)] at h1
  have h3 : sumF (2 * p.ms.length + 2) (fun k => if k = 2 * b + 1 then 0 else ph p src snk R k (2 * b)) = sumF (2 * p.ms.length + 2) (fun v => - (if v = 2 * b + 1 then 0 else capC p src snk (2 * b) v - R (2 * b) v)) := sumF_congr fun v hv => by
    by_cases e : v = 2 * b + 1
    · rw [if_pos e, if_pos e]; rfl
    · rw [if_neg e, if_neg e]; exact h.anti (by omega) hv
  rw [h3, sumF_neg]
  have h4 := (h.thr hb).1
  unfold ph at h4
  omega
theorem out_sum (h : FlP p src snk R n) {b : Nat} (hb : b < p.ms.length) : sumF (2 * p.ms.length + 2) (fun k => if k = 2 * b then 0 else ph p src snk R (2 * b + 1) k) = R (2 * b + 1) (2 * b) := by
  have h1 := h.f.nt (2 * b + 1) (by omega)
  have h2 : valX (2 * p.ms.length) (2 * p.ms.length + 1) n (2 * b + 1) = 0 := by
    unfold valX
    rw [if_neg (by omega), if_neg (by omega)]; rfl
  rw [h2, sumF_off _ _ (2 * b) (by omega)] at h1
  have h3 : sumF (2 * p.ms.length + 2) (fun k => if k = 2 * b then 0 else ph p src snk R (2 * b + 1) k) = sumF (2 * p.ms.length + 2) (fun v => if v = 2 * b then 0 else capC p src snk (2 * b + 1) v - R (2 * b + 1) v) := rfl
  rw [h3]
  have h4 := (h.thr hb).1
  have h5 := h.anti (i := 2 * b) (j := 2 * b + 1) (by omega) (by omega)
  unfold ph at h4 h5
  omega
theorem in_le (h : FlP p src snk R n) {b k : Nat} (hb : b < p.ms.length) (hk : k < 2 * p.ms.length + 2) (hne : k ≠ 2 * b + 1) : ph p src snk R k (2 * b) ≤ R (2 * b + 1) (2 * b) := by
  rw [← h.in_sum hb]
  have := sumF_get (n := 2 * p.ms.length + 2) (f := fun k => if k = 2 * b + 1 then 0 else ph p src snk R k (2 * b)) (fun v hv => by
    show 0 ≤ (if v = 2 * b + 1 then (0 : Int) else ph p src snk R v (2 * b))
    split
    · exact Int.le_refl _
    · rename_i e; exact h.in_nn hb hv e) hk
  rw [if_neg hne] at this
  exact this
theorem out_le (h : FlP p src snk R n) {b k : Nat} (hb : b < p.ms.length) (hk : k < 2 * p.ms.length + 2) (hne : k ≠ 2 * b) : ph p src snk R (2 * b + 1) k ≤ R (2 * b + 1) (2 * b) := by
  rw [← h.out_sum hb]
  have := sumF_get (n := 2 * p.ms.length + 2) (f := fun k => if k = 2 * b then 0 else ph p src snk R (2 * b + 1) k) (fun v hv => by
    show 0 ≤ (if v = 2 * b then (0 : Int) else ph p src snk R (2 * b + 1) v)
    split
    · exact Int.le_refl _
    · rename_i e; exact h.out_nn hb hv e) hk
  rw [if_neg hne] at this
  exact this
theorem in_one (h : FlP p src snk R n) {b k l : Nat} (hb : b < p.ms.length) (hk : k < 2 * p.ms.length + 2) (hl : l < 2 * p.ms.length + 2) (h1 : k ≠ 2 * b + 1) (h2 : l ≠ 2 * b + 1) (h3 : 1 ≤ ph p src snk R k (2 * b)) (h4 : 1 ≤ ph p src snk R l (2 * b)) : k = l := by
  apply Classical.byContradiction
  intro hc
  have := sumF_two (n := 2 * p.ms.length + 2) (f := fun k => if k = 2 * b + 1 then 0 else ph p src snk R k (2 * b)) (fun v hv => by
    show 0 ≤ (if v = 2 * b + 1 then (0 : Int) else ph p src snk R v (2 * b))
    split
    · exact Int.le_refl _
    · rename_i e; exact h.in_nn hb hv e) hk hl hc (by rw [if_neg h1]; exact h3) (by rw [if_neg h2]; exact h4)
  rw [h.in_sum hb] at this
  have := (h.thr hb).2.2
  omega
theorem out_one (h : FlP p src snk R n) {b k l : Nat} (hb : b < p.ms.length) (hk : k < 2 * p.ms.length + 2) (hl : l < 2 * p.ms.length + 2) (h1 : k ≠ 2 * b) (h2 : l ≠ 2 * b) (h3 : 1 ≤ ph p src snk R (2 * b + 1) k) (h4 : 1 ≤ ph p src snk R (2 * b + 1) l) : k = l := by
  apply Classical.byContradiction
  intro hc
  have := sumF_two (n := 2 * p.ms.length + 2) (f := fun k => if k = 2 * b then 0 else ph p src snk R (2 * b + 1) k) (fun v hv => by
    show 0 ≤ (if v = 2 * b then (0 : Int) else ph p src snk R (2 * b + 1) v)
    split
    · exact Int.le_refl _
    · rename_i e; exact h.out_nn hb hv e) hk hl hc (by rw [if_neg h1]; exact h3) (by rw [if_neg h2]; exact h4)
  rw [h.out_sum hb] at this
  have := (h.thr hb).2.2
  omega
end FlP
structure Stp (p : Pl) (src snk : List Int) (R : Nat → Nat → Int) (a b : Int) : Prop where
  arc : (⟨a, b⟩ : Ar) ∈ p.arcs
  ok : okArc p src snk ⟨a, b⟩ = true
  fl : 0 < R (2 * b.toNat) (2 * a.toNat + 1)
  no : a ∉ snk
namespace FlP
variable {p : Pl} {src snk : List Int} {R : Nat → Nat → Int} {n : Int}
theorem arc_at (h : FlP p src snk R n) {a b : Int} (hm : (⟨a, b⟩ : Ar) ∈ p.arcs) : a.toNat < p.ms.length ∧ (a.toNat : Int) = a ∧ b.toNat < p.ms.length ∧ (b.toNat : Int) = b ∧ a.toNat ≠ b.toNat := by
  obtain ⟨i1, i2, i3, _⟩ := h.pk.ins _ hm
  have h1 := inN_lt i1
  have h2 := inN_lt i2
  exact ⟨h1.1, h1.2, h2.1, h2.2, fun e => i3 (by dsimp only at h1 h2 ⊢; omega)⟩
theorem arc_ph (h : FlP p src snk R n) {a b : Nat} (ha : a < p.ms.length) (hb : b < p.ms.length) (hab : a ≠ b) : ph p src snk R (2 * a + 1) (2 * b) = R (2 * b) (2 * a + 1) := by
  have h1 := h.anti (i := 2 * b) (j := 2 * a + 1) (by omega) (by omega)
  have h2 := (capC_bd p src snk (2 * b) (2 * a + 1)).1
  have h3 : ¬ 1 ≤ capC p src snk (2 * b) (2 * a + 1) := fun hc => by
    have := h.cap_in hb (capC_shape h.pk h.e (by have := h.pk.le; omega) hc)
    omega
  have h4 : ph p src snk R (2 * b) (2 * a + 1) = capC p src snk (2 * b) (2 * a + 1) - R (2 * b) (2 * a + 1) := rfl
  omega
theorem stp_ph (h : FlP p src snk R n) {a b : Int} (hs : Stp p src snk R a b) : 1 ≤ ph p src snk R (2 * a.toNat + 1) (2 * b.toNat) := by
  obtain ⟨h1, _, h2, _, h3⟩ := h.arc_at hs.arc
  rw [h.arc_ph h1 h2 h3]
  have := hs.fl
  omega
theorem stp_inj (h : FlP p src snk R n) {a a' b : Int} (h1 : Stp p src snk R a b) (h2 : Stp p src snk R a' b) : a = a' := by
  obtain ⟨a1, a2, a3, a4, a5⟩ := h.arc_at h1.arc
  obtain ⟨b1, b2, b3, b4, b5⟩ := h.arc_at h2.arc
  have := h.in_one a3 (k := 2 * a.toNat + 1) (l := 2 * a'.toNat + 1) (by omega) (by omega) (by omega) (by omega) (h.stp_ph h1) (h.stp_ph h2)
  omega
theorem stp_fun (h : FlP p src snk R n) {a b b' : Int} (h1 : Stp p src snk R a b) (h2 : Stp p src snk R a b') : b = b' := by
  obtain ⟨a1, a2, a3, a4, a5⟩ := h.arc_at h1.arc
  obtain ⟨b1, b2, b3, b4, b5⟩ := h.arc_at h2.arc
  have := h.out_one a1 (k := 2 * b.toNat) (l := 2 * b'.toNat) (by omega) (by omega) (by omega) (by omega) (h.stp_ph h1) (h.stp_ph h2)
  omega
theorem stp_src (h : FlP p src snk R n) {a b : Int} (h1 : Stp p src snk R a b) : b ∉ src := by
  intro hb
  have hk := h1.ok
  unfold okArc at hk
  simp only [Bool.and_eq_true, Bool.or_eq_true, contains_iff] at hk
  rcases hk.2 with h2 | h2
  · have := bg_cvR (h.e.k1 _ hb)
    rw [this] at h2; cases h2
  · exact h.e.ne _ h2 hb
theorem stp_thr (h : FlP p src snk R n) {a b : Int} (h1 : Stp p src snk R a b) : R (2 * b.toNat + 1) (2 * b.toNat) = 1 := by
  obtain ⟨a1, a2, a3, a4, a5⟩ := h.arc_at h1.arc
  have h2 := h.in_le a3 (k := 2 * a.toNat + 1) (by omega) (by omega)
  have h3 := h.stp_ph h1
  have h4 := h.thr a3
  omega
theorem stp_ex (h : FlP p src snk R n) {a : Int} (ha : inN p.ms.length a = true) (ht : R (2 * a.toNat + 1) (2 * a.toNat) = 1) (hs : a ∉ snk) : ∃ b, Stp p src snk R a b := by
  obtain ⟨h1, h2⟩ := inN_lt ha
  have h3 := h.out_sum h1
  rw [ht] at h3
  obtain ⟨k, hk, hp⟩ := sumF_ex (show 1 ≤ _ by rw [h3]; exact Int.le_refl _)
  by_cases e : k = 2 * a.toNat
  · rw [if_pos e] at hp; omega
  rw [if_neg e] at hp
  have hc := h.shape (by omega) hk hp
  generalize hi : 2 * a.toNat + 1 = i at hc
  cases hc with
  | @t m hm =>
    have := (inN_lt (h.e.in2 m hm)).2
    obtain rfl : m = a := by omega
    exact absurd hm hs
  | s hm => omega
  | @a x hx hok =>
    obtain ⟨fr, to⟩ := x
    obtain ⟨b1, b2, b3, b4, b5⟩ := h.arc_at hx
    dsimp only at hi hp
    obtain rfl : fr = a := by omega
    refine ⟨to, hx, hok, ?_, hs⟩
    rw [h.arc_ph b1 b3 b5] at hp
    omega
  | m hm => omega
end FlP
structure Chn (p : Pl) (src snk : List Int) (R : Nat → Nat → Int) (l : List Int) : Prop where
  pos : 0 < l.length
  hd : l.getD 0 0 ∈ src
  st : ∀ k, k + 1 < l.length → Stp p src snk R (l.getD k 0) (l.getD (k + 1) 0)
  th : R (2 * (l.getD (l.length - 1) 0).toNat + 1) (2 * (l.getD (l.length - 1) 0).toNat) = 1
namespace Chn
variable {p : Pl} {src snk : List Int} {R : Nat → Nat → Int} {n : Int}
theorem start {x : Int} (hx : x ∈ src) (ht : R (2 * x.toNat + 1) (2 * x.toNat) = 1) : Chn p src snk R [x] :=
  ⟨by simp, by simpa using hx, fun k hk => by simp at hk, by simpa using ht⟩
theorem getD_snoc (l : List Int) (x : Int) (k : Nat) : (l ++ [x]).getD k 0 = if k < l.length then l.getD k 0 else if k = l.length then x else 0 := by
  rw [List.getD_eq_getElem?_getD, List.getD_eq_getElem?_getD]
  split
  · rename_i h; rw [List.getElem?_append_left h]
  · rename_i h
    rw [List.getElem?_append_right (by omega)]
    split
    · rename_i h2; subst h2; simp
    · rename_i h2
      rw [List.getElem?_eq_none (by simp; omega)]; rfl
theorem snoc (hf : FlP p src snk R n) {l : List Int} (h : Chn p src snk R l) {x : Int} (hs : Stp p src snk R (l.getD (l.length - 1) 0) x) : Chn p src snk R (l ++ [x]) := by
  have hp := h.pos
  refine ⟨by simp, by rw [getD_snoc, if_pos hp]; exact h.hd, fun k hk => ?_, ?_⟩
  · rw [List.length_append, List.length_singleton] at hk
    rw [getD_snoc, getD_snoc, if_pos (by omega)]
    by_cases e : k + 1 < l.length
    · rw [if_pos e]; exact h.st k e
    · rw [if_neg e, if_pos (by omega)]
      obtain rfl : k = l.length - 1 := by omega
      exact hs
  · rw [List.length_append, List.length_singleton, Nat.add_sub_cancel, getD_snoc, if_neg (by omega), if_pos rfl]
    exact hf.stp_thr hs
theorem eq (hf : FlP p src snk R n) {l l' : List Int} (h : Chn p src snk R l) (h' : Chn p src snk R l') : ∀ i j, i < l.length → j < l'.length → l.getD i 0 = l'.getD j 0 → i = j ∧ l.getD 0 0 = l'.getD 0 0
  | 0, 0, _, _, e => ⟨rfl, e⟩
  | 0, j + 1, _, hj, e => absurd (e ▸ h.hd) (hf.stp_src (h'.st j hj))
  | i + 1, 0, hi, _, e => absurd (e ▸ h'.hd) (hf.stp_src (h.st i hi))
  | i + 1, j + 1, hi, hj, e => by
    have h1 := h.st i hi
    have h2 := h'.st j hj
    rw [e] at h1
    obtain ⟨k1, k2⟩ := eq hf h h' i j (by omega) (by omega) (hf.stp_inj h1 h2)
    exact ⟨by omega, k2⟩
theorem ins (hf : FlP p src snk R n) {l : List Int} (h : Chn p src snk R l) : ∀ k, k < l.length → inN p.ms.length (l.getD k 0) = true
  | 0, _ => hf.e.in1 _ h.hd
  | k + 1, hk => (hf.pk.ins _ (h.st k hk).arc).2.1
theorem nodup (hf : FlP p src snk R n) {l : List Int} (h : Chn p src snk R l) : l.Nodup := by
  rw [List.nodup_iff_pairwise_ne, List.pairwise_iff_getElem]
  intro i j hi hj hij e
  have := (h.eq hf h i j hi hj (by rw [List.getD_eq_getElem?_getD, List.getD_eq_getElem?_getD, List.getElem?_eq_getElem hi, List.getElem?_eq_getElem hj, e])).1
  omega
theorem len (hf : FlP p src snk R n) {l : List Int} (h : Chn p src snk R l) : l.length ≤ p.ms.length := by
  have h1 : (l.map Int.toNat).Nodup := by
    rw [List.nodup_iff_pairwise_ne, List.pairwise_map]
    refine List.Pairwise.imp_of_mem ?_ (List.nodup_iff_pairwise_ne.1 (h.nodup hf))
    intro a b ha hb hab e
    obtain ⟨i, hi, rfl⟩ := List.mem_iff_getElem.1 ha
    obtain ⟨j, hj, rfl⟩ := List.mem_iff_getElem.1 hb
    have k1 := inN_lt (h.ins hf i hi)
    have k2 := inN_lt (h.ins hf j hj)
    rw [List.getD_eq_getElem?_getD, List.getElem?_eq_getElem hi] at k1
    rw [List.getD_eq_getElem?_getD, List.getElem?_eq_getElem hj] at k2
    dsimp only [Option.getD_some] at k1 k2
    exact hab (by omega)
  have h2 : (l.map Int.toNat).length ≤ (List.range p.ms.length).length := h1.length_le_of_subset fun x hx => by
    obtain ⟨y, hy, rfl⟩ := List.mem_map.1 hx
    obtain ⟨i, hi, rfl⟩ := List.mem_iff_getElem.1 hy
    have k1 := inN_lt (h.ins hf i hi)
    rw [List.getD_eq_getElem?_getD, List.getElem?_eq_getElem hi] at k1
    exact List.mem_range.2 k1.1
  simpa using h2
theorem path (hf : FlP p src snk R n) {l : List Int} (h : Chn p src snk R l) (hl : l.getD (l.length - 1) 0 ∈ snk) : pathE p l = 0 := by
  have hin : l.any (fun x => !inN p.ms.length x) = false := by
    rw [List.any_eq_false]
    intro x hx
    obtain ⟨i, hi, rfl⟩ := List.mem_iff_getElem.1 hx
    have k1 := h.ins hf i hi
    rw [List.getD_eq_getElem?_getD, List.getElem?_eq_getElem hi, Option.getD_some] at k1
    rw [k1]; simp
  rw [pathE_in hin, if_pos]
  have hp := h.pos
  have h2 : 2 ≤ l.length := by
    apply Classical.byContradiction
    intro hc
    have e : l.length - 1 = 0 := by omega
    rw [e] at hl
    exact hf.e.ne _ hl h.hd
  refine (pathB_iff p l).2 ⟨h2, hf.e.k1 _ h.hd, hf.e.k2 _ hl, h.nodup hf, fun k hk => ?_⟩
  unfold okK
  cases k with
  | zero => simp
  | succ k =>
    have hs := h.st k hk
    rw [Nat.add_sub_cancel, decide_eq_true hs.arc]
    by_cases e : k + 1 + 1 = l.length
    · simp [e]
    · have hno := (h.st (k + 1) (by omega)).no
      have hok := hs.ok
      unfold okArc at hok
      simp only [Bool.and_eq_true, Bool.or_eq_true, contains_iff] at hok
      rw [hok.2.resolve_right hno]; simp
end Chn
end Go.Proofs.YtahpdkkpnkhnhaaGreatDoor
/- Walks: whether two states are the same, in the reference. -/
namespace Go.Proofs.YtahpdkkpnkhnhaaGreatDoor
open Go Go.Proofs Go.RowKit Go.Shelf
set_option maxRecDepth 100000 in
set_option maxHeartbeats 1000000 in
@[go_sem] theorem eq100 (r1 r2 : Bool) (f1 f2 : Int) (g1 g2 : ByteArray) (w : World) : (Op.equalIn 10000 100 (.agg #[.bool r1, .int .i64 f1, .string g1]) (.agg #[.bool r2, .int .i64 f2, .string g2])).run Tryz.prog w = .ok (r1 == r2 && (f1 == f2 && g1.toList == g2.toList)) w := by
  have u3 := Tryz.underlying3
  have u4 := Tryz.underlying4
  have u9 := Tryz.underlying9
  have a3 := Tryz.isAgg3
  have a4 := Tryz.isAgg4
  have a9 := Tryz.isAgg9
  have z3 := Tryz.sizeOf3
  have z4 := Tryz.sizeOf4
  have z9 := Tryz.sizeOf9
  rw [show (10000 : Nat) = 9999 + 1 from rfl, Op.equalIn]
  simp only [Sem.run_bind, run_underlying Tryz.underlying100, Result.andThen_ok]
  go_simp
  by_cases h1 : r1 = r2 <;> by_cases h2 : f1 = f2 <;> by_cases h3 : g1.toList = g2.toList <;> simp [h1, h2, h3]
end Go.Proofs.YtahpdkkpnkhnhaaGreatDoor
/- Walks: small helpers of the laws on states; whether a machine is fed. -/
namespace Go.Proofs.YtahpdkkpnkhnhaaGreatDoor
open Go Go.Proofs Go.RowKit Go.Shelf
def SlL {α : Type} (f : α → List Value) (sz : Nat) (w : World) (B : Nat) (v : Value) (l : List α) : Prop :=
  ∃ a c, v = .slice a l.length c ∧ (l.length ≤ 9223372036854775807 ∧ l.length ≤ c) ∧ (0 < l.length → ∃ b off, a = some ⟨b, off, none⟩ ∧ b < B ∧
    ∀ i (h : i < l.length), At w b (off + i * sz) (f l[i]))
theorem SlL.later {α : Type} {f : α → List Value} {sz : Nat} {w w' : World} {v : Value} {l : List α} (h : SlL f sz w w.heap.size v l) (hb : Below w.heap.size w w') : SlL f sz w' w'.heap.size v l := by
  obtain ⟨a, c, h1, h2, h3⟩ := h
  refine ⟨a, c, h1, h2, fun h0 => ?_⟩
  obtain ⟨b, off, h4, h5, h6⟩ := h3 h0
  exact ⟨b, off, h4, Nat.lt_of_lt_of_le h5 hb.size, fun i hi => (h6 i hi).below hb h5⟩
end Go.Proofs.YtahpdkkpnkhnhaaGreatDoor
/- Walks: the law PathStarts. -/
namespace Go.Proofs.YtahpdkkpnkhnhaaGreatDoor
open Go Go.Proofs Go.RowKit Go.Shelf
theorem own_nil {w : World} {B : Nat} {v : Value} (h : Own Sx.enc 3 100 w B v []) : ∃ a c, v = .slice a 0 c := by
  obtain ⟨a, c, e⟩ := h.shape
  exact ⟨a, c, e⟩
theorem StE.bad {w : World} {E : Int} {L : List Sx} {e : Ending} {w' : World} (h : StE w E L e w') (hE : E ≠ 0) : ∃ a c, e = .returned (.tuple #[.slice a 0 c, .int .i64 E]) ∧ Below w.heap.size w w' := by
  obtain ⟨v, rfl, ho, hb⟩ := h
  rw [if_pos hE] at ho
  obtain ⟨a, c, rfl⟩ := own_nil ho
  exact ⟨a, c, rfl, hb⟩
theorem StE.good {w : World} {L : List Sx} {e : Ending} {w' : World} (h : StE w 0 L e w') (hl : L.length ≤ 1000000000) : ∃ v, e = .returned (.tuple #[v, .int .i64 0]) ∧ Sl Sx.enc 3 w' w'.heap.size v L ∧ Below w.heap.size w w' := by
  obtain ⟨v, rfl, ho, hb⟩ := h
  rw [if_neg (by simp)] at ho
  exact ⟨v, rfl, ho.toSl Sx.enc_len hl, hb⟩
theorem StatePost.good {w : World} {L : List Sx} {e : Ending} {w' : World} (h : StatePost w L e w') (hl : L.length ≤ 1000000000) : ∃ v, e = .returned v ∧ Sl Sx.enc 3 w' w'.heap.size v L ∧ Below w.heap.size w w' := by
  obtain ⟨v, rfl, ho, hb⟩ := h
  exact ⟨v, rfl, ho.toSl Sx.enc_len hl, hb⟩
end Go.Proofs.YtahpdkkpnkhnhaaGreatDoor
