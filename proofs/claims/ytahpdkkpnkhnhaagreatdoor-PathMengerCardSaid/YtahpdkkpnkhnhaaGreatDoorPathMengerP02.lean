/- Lemmas on the way to the law PathMenger (part 2): Ta Va Kd Ke Kh Lb Lc Mc Pb -/
import Derived.Test.YtahpdkkpnkhnhaaGreatDoorBA27
import Derived.Test.YtahpdkkpnkhnhaaGreatDoorPathMengerP01
import Derived.Test.YtahpdkkpnkhnhaaGreatDoorBA25
import Derived.Test.YtahpdkkpnkhnhaaGreatDoorBA28
import Derived.Test.YtahpdkkpnkhnhaaGreatDoorBA29
set_option linter.unusedVariables false
set_option linter.unusedSimpArgs false

/- Plain: the search of CheckCut finds a way to a sink exactly if there is one. -/
namespace Go.Proofs.YtahpdkkpnkhnhaaGreatDoor
open Go Go.Proofs Go.RowKit Go.Shelf
def inS (s : List Bool) (m : Int) : Prop := s.getD m.toNat false = true
inductive VWay (p : Pl) (cut snk src : List Int) : Int → Prop
  | start {m : Int} : m ∈ src → m ∉ cut → VWay p cut snk src m
  | step {m x : Int} : VWay p cut snk src m → m ∉ snk → (cvB (kdA p m) = true ∨ m ∈ src) → (⟨m, x⟩ : Ar) ∈ p.arcs → (cvB (kdA p x) = true ∨ x ∈ snk) → x ∉ cut → VWay p cut snk src x
theorem contains_iff {l : List Int} {x : Int} : l.contains x = true ↔ x ∈ l := by simp
theorem goN_true {V : List Bool → Int → Option (Bool × List Bool)} {ok : Int → Bool} : ∀ {l : List Int} {s s' : List Bool}, goN V ok l s = some (true, s') → ∃ x s1 s2, x ∈ l ∧ ok x = true ∧ V s1 x = some (true, s2)
  | [], s, s', h => by unfold goN at h; cases h
  | x :: r, s, s', h => by
    unfold goN at h
    by_cases hok : ok x = true
    · rw [if_pos hok] at h
      cases hv : V s x with
      | none => rw [hv] at h; cases h
      | some z =>
        obtain ⟨b, s1⟩ := z
        rw [hv] at h
        cases b with
        | true => exact ⟨x, s, s1, by simp, hok, hv⟩
        | false =>
          obtain ⟨y, s2, s3, h1, h2, h3⟩ := goN_true h
          exact ⟨y, s2, s3, by simp [h1], h2, h3⟩
    · rw [if_neg hok] at h
      obtain ⟨y, s2, s3, h1, h2, h3⟩ := goN_true h
      exact ⟨y, s2, s3, by simp [h1], h2, h3⟩
theorem visN_true {p : Pl} {cut snk src : List Int} : ∀ {f : Nat} {s s' : List Bool} {m : Int}, visN p cut snk src f s m = some (true, s') → (m ∉ cut → VWay p cut snk src m) → ∃ t ∈ snk, VWay p cut snk src t
  | 0, s, s', m, h, _ => by unfold visN at h; cases h
  | f + 1, s, s', m, h, hw => by
    unfold visN at h
    split at h
    · cases h
    · rename_i h1
      have hc : m ∉ cut := fun hc => h1 (by rw [contains_iff.2 hc, Bool.or_true])
      split at h
      · rename_i h2
        exact ⟨m, contains_iff.1 h2, hw hc⟩
      · rename_i h2
        have h2 : m ∉ snk := fun hh => h2 (contains_iff.2 hh)
        split at h
        · cases h
        · rename_i h3
          have h3 : cvB (kdA p m) = true ∨ m ∈ src := by
            cases h4 : cvB (kdA p m) with
            | true => exact .inl rfl
            | false =>
              right
              rw [h4] at h3
              simpa using h3
          obtain ⟨x, s1, s2, k1, k2, k3⟩ := goN_true h
          refine visN_true k3 fun hx => ?_
          refine .step (hw hc) h2 h3 (mem_nextL.1 k1) ?_ hx
          simp only [Bool.or_eq_true, contains_iff] at k2
          exact k2
structure SeenR (p : Pl) (cut snk src : List Int) (s s' : List Bool) : Prop where
  len : s'.length = s.length
  le : ∀ x : Int, inS s x → inS s' x
  new : ∀ x : Int, 0 ≤ x → inS s' x → ¬ inS s x → x ∉ snk ∧ ((cvB (kdA p x) = true ∨ x ∈ src) → ∀ y ∈ nextL p x, (cvB (kdA p y) = true ∨ y ∈ snk) → y ∈ cut ∨ inS s' y)
theorem SeenR.refl (p : Pl) (cut snk src : List Int) (s : List Bool) : SeenR p cut snk src s s := ⟨rfl, fun _ h => h, fun _ _ h h' => absurd h h'⟩
theorem SeenR.trans {p : Pl} {cut snk src : List Int} {a b c : List Bool} (h : SeenR p cut snk src a b) (k : SeenR p cut snk src b c) : SeenR p cut snk src a c :=
  ⟨k.len.trans h.len, fun x hx => k.le x (h.le x hx), fun x h0 hx hn => by
    by_cases hb : inS b x
    · obtain ⟨h1, h2⟩ := h.new x h0 hb hn
      refine ⟨h1, fun h3 y hy h4 => ?_⟩
      rcases h2 h3 y hy h4 with h5 | h5
      · exact .inl h5
      · exact .inr (k.le y h5)
    · exact k.new x h0 hx hb⟩
theorem goN_false {p : Pl} {cut snk src : List Int} {n : Nat} {V : List Bool → Int → Option (Bool × List Bool)} {ok : Int → Bool} (hV : ∀ s s' x, s.length = 64 → 0 ≤ x → V s x = some (false, s') → SeenR p cut snk src s s' ∧ (x ∈ cut ∨ inS s' x)) :
    ∀ {l : List Int} {s s' : List Bool}, s.length = 64 → (∀ x ∈ l, 0 ≤ x) → goN V ok l s = some (false, s') → SeenR p cut snk src s s' ∧ ∀ x ∈ l, ok x = true → x ∈ cut ∨ inS s' x
  | [], s, s', _, _, h => by
    unfold goN at h
    cases h
    exact ⟨.refl _ _ _ _ _, by simp⟩
  | x :: r, s, s', hl, hp, h => by
    unfold goN at h
    by_cases hok : ok x = true
    · rw [if_pos hok] at h
      cases hv : V s x with
      | none => rw [hv] at h; cases h
      | some z =>
        obtain ⟨b, s1⟩ := z
        rw [hv] at h
        cases b with
        | true => cases h
        | false =>
          obtain ⟨h1, h2⟩ := hV s s1 x hl (hp x (by simp)) hv
          obtain ⟨h3, h4⟩ := goN_false (n := n) hV (h1.len.trans hl) (fun y hy => hp y (by simp [hy])) h
          refine ⟨h1.trans h3, fun y hy ho => ?_⟩
          rcases List.mem_cons.1 hy with rfl | hy
          · exact h2.imp_right (h3.le _)
          · exact h4 y hy ho
    · rw [if_neg hok] at h
      obtain ⟨h3, h4⟩ := goN_false (n := n) hV hl (fun y hy => hp y (by simp [hy])) h
      refine ⟨h3, fun y hy ho => ?_⟩
      rcases List.mem_cons.1 hy with rfl | hy
      · exact absurd ho hok
      · exact h4 y hy ho
theorem inS_set {s : List Bool} {m : Int} (hl : m.toNat < s.length) (x : Int) : inS (s.set m.toNat true) x ↔ x.toNat = m.toNat ∨ inS s x := by
  unfold inS
  rw [List.getD_eq_getElem?_getD, List.getElem?_set, List.getD_eq_getElem?_getD]
  by_cases e : m.toNat = x.toNat
  · rw [if_pos e, if_pos hl]; simp [e]
  · rw [if_neg e]
    constructor
    · exact .inr
    · rintro (h | h)
      · exact absurd h.symm e
      · exact h
theorem visN_false {p : Pl} (hok : OkP p) {cut snk src : List Int} : ∀ {f : Nat} {s s' : List Bool} {m : Int}, s.length = 64 → 0 ≤ m → m < 64 → visN p cut snk src f s m = some (false, s') → SeenR p cut snk src s s' ∧ (m ∈ cut ∨ inS s' m)
  | 0, s, s', m, _, _, _, h => by unfold visN at h; cases h
  | f + 1, s, s', m, hl, h0, h64, h => by
    unfold visN at h
    split at h
    · rename_i h1
      cases h
      refine ⟨.refl _ _ _ _ _, ?_⟩
      simp only [Bool.or_eq_true, contains_iff] at h1
      rcases h1 with h1 | h1
      · exact .inr h1
      · exact .inl h1
    · rename_i h1
      have hms : m.toNat < s.length := by omega
      have hset := inS_set hms
      have hself : inS (s.set m.toNat true) m := (hset m).2 (.inl rfl)
      split at h
      · cases h
      · rename_i h2
        have h2 : m ∉ snk := fun hh => h2 (contains_iff.2 hh)
        split at h
        · rename_i h3
          cases h
          refine ⟨⟨by rw [List.length_set], fun x hx => (hset x).2 (.inr hx), fun x hx0 hx hn => ?_⟩, .inr hself⟩
          have e : x = m := by
            rcases (hset x).1 hx with h4 | h4
            · omega
            · exact absurd h4 hn
          subst e
          refine ⟨h2, fun h4 => ?_⟩
          simp only [Bool.and_eq_true, Bool.not_eq_true'] at h3
          rcases h4 with h4 | h4
          · rw [h3.1] at h4; cases h4
          · rw [contains_iff.2 h4] at h3; cases h3.2
        · obtain ⟨h3, h4⟩ := goN_false (n := f) (p := p) (cut := cut) (snk := snk) (src := src) (V := fun s x => if 0 ≤ x ∧ x < 64 then visN p cut snk src f s x else none) (fun s s' x a b c => by
              by_cases hx : 0 ≤ x ∧ x < 64
              · rw [if_pos hx] at c
                exact visN_false hok a b hx.2 c
              · rw [if_neg hx] at c; cases c) (l := nextL p m) (s := s.set m.toNat true) (s' := s') (ok := fun x => cvB (kdA p x) || snk.contains x) (by rw [List.length_set]; exact hl) (fun x hx => (nextL_in hok hx).1) (by
              rw [← h]
              have hc : ∀ (l : List Int) (s : List Bool), (∀ x ∈ l, 0 ≤ x ∧ x < 64) → goN (fun s x => if 0 ≤ x ∧ x < 64 then visN p cut snk src f s x else none) (fun x => cvB (kdA p x) || snk.contains x) l s = goN (visN p cut snk src f) (fun x => cvB (kdA p x) || snk.contains x) l s := by
                intro l
                induction l with
                | nil => intro s _; rfl
                | cons x r ih =>
                  intro s hx
                  unfold goN
                  rw [if_pos (hx x (by simp))]
                  split
                  · cases hv : visN p cut snk src f s x with
                    | none => rfl
                    | some z =>
                      obtain ⟨b, s1⟩ := z
                      cases b with
                      | true => rfl
                      | false => exact ih s1 fun y hy => hx y (by simp [hy])
                  · exact ih s fun y hy => hx y (by simp [hy])
              exact hc _ _ fun x hx => nextL_in hok hx)
          refine ⟨⟨by rw [h3.len, List.length_set], fun x hx => h3.le x ((hset x).2 (.inr hx)), fun x hx0 hx hn => ?_⟩, .inr (h3.le m hself)⟩
          by_cases e : x = m
          · subst e
            exact ⟨h2, fun _ y hy h6 => h4 y hy (by simp only [Bool.or_eq_true, contains_iff]; exact h6)⟩
          · refine h3.new x hx0 hx fun h5 => ?_
            rcases (hset x).1 h5 with h6 | h6
            · omega
            · exact hn h6
theorem anyN_true {V : List Bool → Int → Option (Bool × List Bool)} : ∀ {l : List Int} {s : List Bool}, anyN V l s = true → ∃ x s1 s2, x ∈ l ∧ V s1 x = some (true, s2)
  | [], s, h => by unfold anyN at h; cases h
  | x :: r, s, h => by
    unfold anyN at h
    cases hv : V s x with
    | none => rw [hv] at h; cases h
    | some z =>
      obtain ⟨b, s1⟩ := z
      rw [hv] at h
      cases b with
      | true => exact ⟨x, s, s1, by simp, hv⟩
      | false =>
        obtain ⟨y, s2, s3, h1, h2⟩ := anyN_true h
        exact ⟨y, s2, s3, by simp [h1], h2⟩
theorem anyN_false {p : Pl} (hok : OkP p) {cut snk src : List Int} : ∀ {l : List Int} {s : List Bool}, (∀ x ∈ l, 0 ≤ x ∧ x < 64) → s.length = 64 → anyN (visN p cut snk src 65) l s = false → ∃ s', SeenR p cut snk src s s' ∧ ∀ x ∈ l, x ∈ cut ∨ inS s' x
  | [], s, _, _, _ => ⟨s, .refl _ _ _ _ _, by simp⟩
  | x :: r, s, hl, hs, h => by
    obtain ⟨hx0, hx1⟩ := hl x (by simp)
    obtain ⟨b, s1, e, h1, _⟩ := visN_some hok cut snk src 64 s x hs (by have := List.count_le_length (a := false) (l := s); omega) ⟨hx0, hx1⟩
    unfold anyN at h
    rw [e] at h
    cases b with
    | true => cases h
    | false =>
      obtain ⟨h2, h3⟩ := visN_false hok hs hx0 hx1 e
      obtain ⟨s', h4, h5⟩ := anyN_false hok (fun y hy => hl y (by simp [hy])) h1 h
      refine ⟨s', h2.trans h4, fun y hy => ?_⟩
      rcases List.mem_cons.1 hy with rfl | hy
      · exact h3.imp_right (h4.le _)
      · exact h5 y hy
theorem cutB_iff {p : Pl} (hok : OkP p) {cut snk src : List Int} (hsrc : ∀ x ∈ src, inN p.ms.length x = true) : cutB p src snk cut = true ↔ ∃ t ∈ snk, VWay p cut snk src t := by
  constructor
  · intro h
    unfold cutB at h
    obtain ⟨x, s1, s2, h1, h2⟩ := anyN_true h
    exact visN_true h2 fun hc => .start h1 hc
  · rintro ⟨t, ht, hw⟩
    cases hq : cutB p src snk cut with
    | true => rfl
    | false =>
      unfold cutB at hq
      have hle := hok.le
      obtain ⟨s', h1, h2⟩ := anyN_false hok (fun x hx => by obtain ⟨k, rfl, hk⟩ := inN_nat (hsrc x hx); omega) (by simp) hq
      have hno : ∀ x : Int, ¬ inS (List.replicate 64 false) x := fun x h => by
        unfold inS at h
        rw [List.getD_eq_getElem?_getD, List.getElem?_replicate] at h
        split at h <;> cases h
      have hall : ∀ x, VWay p cut snk src x → 0 ≤ x ∧ inS s' x := by
        intro x hx
        induction hx with
        | @start m hm hc =>
          obtain ⟨k, rfl, hk⟩ := inN_nat (hsrc m hm)
          exact ⟨by omega, (h2 _ hm).resolve_left hc⟩
        | @step m x _ _ h5 h6 h7 h8 ih =>
          have hx := nextL_in hok (mem_nextL.2 h6)
          exact ⟨hx.1, ((h1.new m ih.1 ih.2 (hno m)).2 h5 x (mem_nextL.2 h6) h7).resolve_left h8⟩
      obtain ⟨h3, h4⟩ := hall t hw
      exact absurd ht (h1.new t h3 h4 (hno t)).1
theorem en_cvR {s : ByteArray} (h : enB s = true) : cvB s = false := by
  unfold enB at h
  simp only [Bool.or_eq_true, decide_eq_true_eq] at h
  unfold cvB
  exact decide_eq_false (by omega)
theorem way_in {p : Pl} {cut : List Int} {to fr x t : Int} (h : WayT p cut to fr x t) : x = fr ∨ ((x = to ∨ cvB (kdA p x) = true) ∧ x ∉ cut) := by
  cases h with
  | start => exact .inl rfl
  | step _ hs => exact .inr ⟨hs.2.2.1, hs.2.2.2⟩
theorem way_v {p : Pl} {cut src snk : List Int} (he : OkE p src snk) {to fr x t : Int} (hf : fr ∈ src) (hc : fr ∉ cut) (ht : to ∈ snk) (h : WayT p cut to fr x t) : VWay p cut snk src x := by
  induction h with
  | start => exact .start hf hc
  | @step m x t hw hs ih =>
    have hm : m ∉ snk ∧ (cvB (kdA p m) = true ∨ m ∈ src) := by
      rcases way_in hw with h1 | ⟨h1, _⟩
      · subst h1; exact ⟨(fun hh => he.ne _ hh hf), .inr hf⟩
      · rcases h1 with h1 | h1
        · exact absurd h1 hs.2.1
        · exact ⟨fun h2 => (by have := en_cvR (he.k2 _ h2); rw [h1] at this; cases this), .inl h1⟩
    refine .step ih hm.1 hm.2 hs.1 ?_ hs.2.2.2
    rcases hs.2.2.1 with h1 | h1
    · subst h1; exact .inr ht
    · exact .inl h1
theorem OkE.good {p : Pl} {cut src snk : List Int} (he : OkE p src snk) {fr to : Int} (hf : fr ∈ src) (ht : to ∈ snk) (hc : fr ∉ cut) (hc' : to ∉ cut) : badR p cut fr to = false := by
  unfold badR
  rw [he.k1 _ hf, he.k2 _ ht]
  simp only [Bool.not_true, Bool.or_false, Bool.or_eq_false_iff, beq_eq_false_iff_ne, List.contains_eq_mem, decide_eq_false_iff_not]
  exact ⟨⟨fun e => he.ne _ ht (by rw [← e]; exact hf), hc⟩, hc'⟩
end Go.Proofs.YtahpdkkpnkhnhaaGreatDoor
/- Plain: what the greatest flow says of machines. -/
namespace Go.Proofs.YtahpdkkpnkhnhaaGreatDoor
open Go Go.Proofs Go.RowKit Go.Shelf
theorem sumF_off (n : Nat) (f : Nat → Int) (k : Nat) (hk : k < n) : sumF n f = f k + sumF n (fun v => if v = k then 0 else f v) := by
  have h := sumF_add n (fun v => if v = k then f k else 0) (fun v => if v = k then 0 else f v)
  rw [sumF_one n k _ hk] at h
  rw [← h]
  exact sumF_congr fun v _ => by
    by_cases e : v = k
    · subst e; simp
    · simp [e]
theorem sumF_two {n : Nat} {f : Nat → Int} (h : ∀ v, v < n → 0 ≤ f v) {i j : Nat} (hi : i < n) (hj : j < n) (hij : i ≠ j) (h1 : 1 ≤ f i) (h2 : 1 ≤ f j) : 2 ≤ sumF n f := by
  rw [sumF_off n f i hi]
  have h5 : (if j = i then (0 : Int) else f j) ≤ sumF n (fun v => if v = i then 0 else f v) := sumF_get (n := n) (f := fun v => if v = i then 0 else f v) (fun v hv => by
    show 0 ≤ (if v = i then (0 : Int) else f v)
    split
    · exact Int.le_refl _
    · exact h v hv) hj
  rw [if_neg (fun e => hij e.symm)] at h5
  omega
theorem sumF_ex {n : Nat} {f : Nat → Int} (h : 1 ≤ sumF n f) : ∃ k, k < n ∧ 1 ≤ f k := by
  apply Classical.byContradiction
  intro hc
  have : sumF n f ≤ sumF n (fun _ => 0) := sumF_le fun v hv => by
    apply Classical.byContradiction
    intro h2
    exact hc ⟨v, hv, by omega⟩
  rw [sumF_zero] at this
  omega
theorem sumF_neg (n : Nat) (f : Nat → Int) : sumF n (fun v => - f v) = - sumF n f := by
  induction n with
  | zero => rfl
  | succ n ih => simp only [sumF, ih]; omega
theorem sumF_list {n : Nat} : ∀ (ks : List Nat) (f : Nat → Int), ks.Nodup → (∀ k ∈ ks, k < n) → (∀ v, v < n → v ∉ ks → f v = 0) → sumF n f = (ks.map f).sum
  | [], f, _, _, h => by rw [sumF_congr (g := fun _ => 0) fun v hv => h v hv (by simp)]; exact sumF_zero n
  | k :: ks, f, hn, hl, h => by
    obtain ⟨h1, h2⟩ := List.nodup_cons.1 hn
    have ih := sumF_list ks (fun v => if v = k then 0 else f v) h2 (fun x hx => hl x (by simp [hx])) (fun v hv hx => by
      show (if v = k then (0 : Int) else f v) = 0
      by_cases e : v = k
      · rw [if_pos e]
      · rw [if_neg e]; exact h v hv (by simp [e, hx]))
    have e : ks.map (fun v => if v = k then (0 : Int) else f v) = ks.map f := List.map_congr_left fun x hx => if_neg (fun e : x = k => h1 (by rw [← e]; exact hx))
    rw [sumF_off n f k (hl k (by simp)), ih, e, List.map_cons, List.sum_cons]
inductive CapK (p : Pl) (src snk : List Int) : Nat → Nat → Prop
  | t {m : Int} : m ∈ snk → CapK p src snk (2 * m.toNat + 1) (2 * p.ms.length + 1)
  | s {m : Int} : m ∈ src → CapK p src snk (2 * p.ms.length) (2 * m.toNat)
  | a {a : Ar} : a ∈ p.arcs → okArc p src snk a = true → CapK p src snk (2 * a.fr.toNat + 1) (2 * a.to.toNat)
  | m {m : Nat} : m < p.ms.length → CapK p src snk (2 * m) (2 * m + 1)
theorem inN_lt {n : Nat} {x : Int} (h : inN n x = true) : x.toNat < n ∧ (x.toNat : Int) = x := by
  obtain ⟨k, rfl, hk⟩ := inN_nat h
  exact ⟨by omega, by omega⟩
theorem mem_ixT {n : Nat} {l : List Int} (hn : n ≤ 64) {i j : Nat} (hj : j < 130) : i * 130 + j ∈ ixT n l ↔ ∃ m ∈ l, i = 2 * m.toNat + 1 ∧ j = 2 * n + 1 := by
  unfold ixT
  rw [List.mem_map]
  constructor
  · rintro ⟨m, hm, e⟩; exact ⟨m, hm, by omega, by omega⟩
  · rintro ⟨m, hm, rfl, rfl⟩; exact ⟨m, hm, rfl⟩
theorem mem_ixS {n : Nat} {l : List Int} (hn : n ≤ 64) (hl : ∀ x ∈ l, inN n x = true) {i j : Nat} (hj : j < 130) : i * 130 + j ∈ ixS n l ↔ ∃ m ∈ l, i = 2 * n ∧ j = 2 * m.toNat := by
  unfold ixS
  rw [List.mem_map]
  constructor
  · rintro ⟨m, hm, e⟩
    have := (inN_lt (hl m hm)).1
    exact ⟨m, hm, by omega, by omega⟩
  · rintro ⟨m, hm, rfl, rfl⟩; exact ⟨m, hm, rfl⟩
theorem mem_ixA {p : Pl} (hp : OkP p) {src snk : List Int} {i j : Nat} (hj : j < 130) : i * 130 + j ∈ ixA p src snk p.arcs.length ↔ ∃ a ∈ p.arcs, okArc p src snk a = true ∧ i = 2 * a.fr.toNat + 1 ∧ j = 2 * a.to.toNat := by
  unfold ixA
  rw [List.take_length, List.mem_map]
  have hle := hp.le
  constructor
  · rintro ⟨a, ha, e⟩
    obtain ⟨h1, h2⟩ := List.mem_filter.1 ha
    have := (inN_lt (hp.ins a h1).2.1).1
    exact ⟨a, h1, h2, by omega, by omega⟩
  · rintro ⟨a, h1, h2, rfl, rfl⟩; exact ⟨a, List.mem_filter.2 ⟨h1, h2⟩, rfl⟩
theorem mem_ixM {n : Nat} (hn : n ≤ 64) {i j : Nat} (hj : j < 130) : i * 130 + j ∈ ixM n ↔ ∃ m, m < n ∧ i = 2 * m ∧ j = 2 * m + 1 := by
  unfold ixM
  rw [List.mem_map]
  constructor
  · rintro ⟨m, hm, e⟩
    have := List.mem_range.1 hm
    exact ⟨m, this, by omega, by omega⟩
  · rintro ⟨m, hm, rfl, rfl⟩; exact ⟨m, List.mem_range.2 hm, rfl⟩
section
variable {p : Pl} {src snk : List Int}
theorem capC_shape (hp : OkP p) (he : OkE p src snk) {i j : Nat} (hj : j < 130) (h : 1 ≤ capC p src snk i j) : CapK p src snk i j := by
  have hle := hp.le
  unfold capC at h
  split at h
  · rename_i h1
    obtain ⟨m, hm, rfl, rfl⟩ := (mem_ixT hle hj).1 h1
    exact .t hm
  · split at h
    · rename_i h1
      obtain ⟨m, hm, rfl, rfl⟩ := (mem_ixS hle he.in1 hj).1 h1
      exact .s hm
    · split at h
      · rename_i h1
        obtain ⟨a, k1, k2, rfl, rfl⟩ := (mem_ixA hp hj).1 h1
        exact .a k1 k2
      · split at h
        · rename_i h1
          obtain ⟨m, hm, rfl, rfl⟩ := (mem_ixM hle hj).1 h1
          exact .m hm
        · omega
theorem capC_two (hp : OkP p) (he : OkE p src snk) {i j : Nat} (hj : j < 130) (h : CapK p src snk i j) (hm : ∀ m : Nat, m < p.ms.length → ¬ (i = 2 * m ∧ j = 2 * m + 1)) : capC p src snk i j = 2 := by
  have hle := hp.le
  unfold capC
  cases h with
  | t h1 => rw [if_pos ((mem_ixT hle hj).2 ⟨_, h1, rfl, rfl⟩)]
  | s h1 =>
    split
    · rfl
    · rw [if_pos ((mem_ixS hle he.in1 hj).2 ⟨_, h1, rfl, rfl⟩)]
  | a h1 h2 =>
    split
    · rfl
    · split
      · rfl
      · rw [if_pos ((mem_ixA hp hj).2 ⟨_, h1, h2, rfl, rfl⟩)]
  | m h1 => exact absurd ⟨rfl, rfl⟩ (hm _ h1)
theorem capC_one (hp : OkP p) (he : OkE p src snk) {m : Nat} (h : m < p.ms.length) : capC p src snk (2 * m) (2 * m + 1) = 1 := by
  have hle := hp.le
  have hj : 2 * m + 1 < 130 := by omega
  unfold capC
  rw [if_neg, if_neg, if_neg, if_pos ((mem_ixM hle hj).2 ⟨m, h, rfl, rfl⟩)]
  · rw [mem_ixA hp hj]; rintro ⟨_, _, _, h1, h2⟩; omega
  · rw [mem_ixS hle he.in1 hj]; rintro ⟨_, _, h1, h2⟩; omega
  · rw [mem_ixT hle hj]; rintro ⟨_, _, h1, h2⟩; omega
end
structure FlP (p : Pl) (src snk : List Int) (R : Nat → Nat → Int) (n : Int) : Prop where
  pk : OkP p
  e : OkE p src snk
  f : RFlow (2 * p.ms.length + 2) (capC p src snk) R (valX (2 * p.ms.length) (2 * p.ms.length + 1) n)
namespace FlP
variable {p : Pl} {src snk : List Int} {R : Nat → Nat → Int} {n : Int}
def ph (p : Pl) (src snk : List Int) (R : Nat → Nat → Int) (i j : Nat) : Int := capC p src snk i j - R i j
theorem le (h : FlP p src snk R n) {i j : Nat} (hi : i < 2 * p.ms.length + 2) (hj : j < 2 * p.ms.length + 2) : ph p src snk R i j ≤ capC p src snk i j := by
  have := h.f.nn i j hi hj
  unfold ph; omega
theorem anti (h : FlP p src snk R n) {i j : Nat} (hi : i < 2 * p.ms.length + 2) (hj : j < 2 * p.ms.length + 2) : ph p src snk R j i = - ph p src snk R i j := by
  have := h.f.sm i j hi hj
  unfold ph; omega
theorem shape (h : FlP p src snk R n) {i j : Nat} (hi : i < 2 * p.ms.length + 2) (hj : j < 2 * p.ms.length + 2) (hp : 1 ≤ ph p src snk R i j) : CapK p src snk i j := by
  have := h.le hi hj
  have := h.pk.le
  exact capC_shape h.pk h.e (by omega) (by omega)
theorem nnOf (h : FlP p src snk R n) {i j : Nat} (hi : i < 2 * p.ms.length + 2) (hj : j < 2 * p.ms.length + 2) (hn : ¬ CapK p src snk j i) : 0 ≤ ph p src snk R i j := by
  apply Classical.byContradiction
  intro hc
  have := h.anti hi hj
  exact hn (h.shape hj hi (by omega))
theorem cap_in (h : FlP p src snk R n) {b k : Nat} (hb : b < p.ms.length) (hc : CapK p src snk (2 * b) k) : k = 2 * b + 1 := by
  generalize hi : 2 * b = i at hc
  cases hc with
  | t h1 => omega
  | s h1 => omega
  | a h1 h2 => omega
  | m h1 => omega
theorem cap_out (h : FlP p src snk R n) {b k : Nat} (hb : b < p.ms.length) (hc : CapK p src snk k (2 * b + 1)) : k = 2 * b := by
  generalize hi : 2 * b + 1 = i at hc
  cases hc with
  | t h1 => omega
  | s h1 => omega
  | a h1 h2 => omega
  | m h1 => omega
theorem no_self (h : FlP p src snk R n) {b : Nat} (hb : b < p.ms.length) : ¬ CapK p src snk (2 * b + 1) (2 * b) := by
  intro hc
  generalize hi : 2 * b + 1 = i at hc
  generalize hj : 2 * b = j at hc
  cases hc with
  | t h1 => omega
  | s h1 => omega
  | a h1 h2 =>
    obtain ⟨i1, i2, i3, _⟩ := h.pk.ins _ h1
    have := (inN_lt i1).2
    have := (inN_lt i2).2
    exact i3 (by omega)
  | m h1 => omega
theorem thr (h : FlP p src snk R n) {b : Nat} (hb : b < p.ms.length) : ph p src snk R (2 * b) (2 * b + 1) = R (2 * b + 1) (2 * b) ∧ 0 ≤ R (2 * b + 1) (2 * b) ∧ R (2 * b + 1) (2 * b) ≤ 1 := by
  have h1 := h.f.nn (2 * b + 1) (2 * b) (by omega) (by omega)
  have h2 := h.le (i := 2 * b) (j := 2 * b + 1) (by omega) (by omega)
  have h3 := h.anti (i := 2 * b + 1) (j := 2 * b) (by omega) (by omega)
  have h4 := capC_one h.pk h.e hb
  have h5 := (capC_bd p src snk (2 * b + 1) (2 * b)).1
  have h6 : ¬ (1 ≤ capC p src snk (2 * b + 1) (2 * b)) := fun hc => h.no_self hb (capC_shape h.pk h.e (by have := h.pk.le; omega) hc)
  have h7 : ph p src snk R (2 * b + 1) (2 * b) = capC p src snk (2 * b + 1) (2 * b) - R (2 * b + 1) (2 * b) := rfl
  omega
theorem in_nn (h : FlP p src snk R n) {b k : Nat} (hb : b < p.ms.length) (hk : k < 2 * p.ms.length + 2) (hne : k ≠ 2 * b + 1) : 0 ≤ ph p src snk R k (2 * b) :=
  h.nnOf hk (by omega) fun hc => hne (h.cap_in hb hc)
theorem out_nn (h : FlP p src snk R n) {b k : Nat} (hb : b < p.ms.length) (hk : k < 2 * p.ms.length + 2) (hne : k ≠ 2 * b) : 0 ≤ ph p src snk R (2 * b + 1) k :=
  h.nnOf (by omega) hk fun hc => hne (h.cap_out hb hc)
theorem in_sum (h : FlP p src snk R n) {b : Nat} (hb : b < p.ms.length) : sumF (2 * p.ms.length + 2) (fun k => if k = 2 * b + 1 then 0 else ph p src snk R k (2 * b)) = R (2 * b + 1) (2 * b) := by
  have h1 := h.f.nt (2 * b) (by omega)
  have h2 : valX (2 * p.ms.length) (2 * p.ms.length + 1) n (2 * b) = 0 := by
    unfold valX
    rw [if_neg (by omega), if_neg (by omega)]; rfl
  rw [h2, sumF_off _ _ (2 * b + 1) (by omega)] at h1
  have h3 : sumF (2 * p.ms.length + 2) (fun k => if k = 2 * b + 1 then 0 else ph p src snk R k (2 * b)) = sumF (2 * p.ms.length + 2) (fun v => - (if v = 2 * b + 1 then 0 else capC p src snk (2 * b) v - R (2 * b) v)) := sumF_congr fun v hv => by
    by_cases e : v = 2 * b + 1
    · rw [if_pos e, if_pos e]; rfl
    · rw [if_neg e, if_neg e]; exact h.anti (by omega) hv
  rw [h3, sumF_neg]
  have h4 := (h.thr hb).1
  unfold ph at h4
  omega
theorem out_sum (h : FlP p src snk R n) {b : Nat} (hb : b < p.ms.length) : sumF (2 * p.ms.length + 2) (fun k => if k = 2 * b then 0 else ph p src snk R (2 * b + 1) k) = R (2 * b + 1) (2 * b) := by
  have h1 := h.f.nt (2 * b + 1) (by omega)
  have h2 : valX (2 * p.ms.length) (2 * p.ms.length + 1) n (2 * b + 1) = 0 := by
    unfold valX
    rw [if_neg (by omega), if_neg (by omega)]; rfl
  rw [h2, sumF_off _ _ (2 * b) (by omega)] at h1
  have h3 : sumF (2 * p.ms.length + 2) (fun k => if k = 2 * b then 0 else ph p src snk R (2 * b + 1) k) = sumF (2 * p.ms.length + 2) (fun v => if v = 2 * b then 0 else capC p src snk (2 * b + 1) v - R (2 * b + 1) v) := rfl
  rw [h3]
  have h4 := (h.thr hb).1
  have h5 := h.anti (i := 2 * b) (j := 2 * b + 1) (by omega) (by omega)
  unfold ph at h4 h5
  omega
theorem in_le (h : FlP p src snk R n) {b k : Nat} (hb : b < p.ms.length) (hk : k < 2 * p.ms.length + 2) (hne : k ≠ 2 * b + 1) : ph p src snk R k (2 * b) ≤ R (2 * b + 1) (2 * b) := by
  rw [← h.in_sum hb]
  have := sumF_get (n := 2 * p.ms.length + 2) (f := fun k => if k = 2 * b + 1 then 0 else ph p src snk R k (2 * b)) (fun v hv => by
    show 0 ≤ (if v = 2 * b + 1 then (0 : Int) else ph p src snk R v (2 * b))
    split
    · exact Int.le_refl _
    · rename_i e; exact h.in_nn hb hv e) hk
  rw [if_neg hne] at this
  exact this
theorem out_le (h : FlP p src snk R n) {b k : Nat} (hb : b < p.ms.length) (hk : k < 2 * p.ms.length + 2) (hne : k ≠ 2 * b) : ph p src snk R (2 * b + 1) k ≤ R (2 * b + 1) (2 * b) := by
  rw [← h.out_sum hb]
  have := sumF_get (n := 2 * p.ms.length + 2) (f := fun k => if k = 2 * b then 0 else ph p src snk R (2 * b + 1) k) (fun v hv => by
    show 0 ≤ (if v = 2 * b then (0 : Int) else ph p src snk R (2 * b + 1) v)
    split
    · exact Int.le_refl _
    · rename_i e; exact h.out_nn hb hv e) hk
  rw [if_neg hne] at this
  exact this
theorem in_one (h : FlP p src snk R n) {b k l : Nat} (hb : b < p.ms.length) (hk : k < 2 * p.ms.length + 2) (hl : l < 2 * p.ms.length + 2) (h1 : k ≠ 2 * b + 1) (h2 : l ≠ 2 * b + 1) (h3 : 1 ≤ ph p src snk R k (2 * b)) (h4 : 1 ≤ ph p src snk R l (2 * b)) : k = l := by
  apply Classical.byContradiction
  intro hc
  have := sumF_two (n := 2 * p.ms.length + 2) (f := fun k => if k = 2 * b + 1 then 0 else ph p src snk R k (2 * b)) (fun v hv => by
    show 0 ≤ (if v = 2 * b + 1 then (0 : Int) else ph p src snk R v (2 * b))
    split
    · exact Int.le_refl _
    · rename_i e; exact h.in_nn hb hv e) hk hl hc (by rw [if_neg h1]; exact h3) (by rw [if_neg h2]; exact h4)
  rw [h.in_sum hb] at this
  have := (h.thr hb).2.2
  omega
theorem out_one (h : FlP p src snk R n) {b k l : Nat} (hb : b < p.ms.length) (hk : k < 2 * p.ms.length + 2) (hl : l < 2 * p.ms.length + 2) (h1 : k ≠ 2 * b) (h2 : l ≠ 2 * b) (h3 : 1 ≤ ph p src snk R (2 * b + 1) k) (h4 : 1 ≤ ph p src snk R (2 * b + 1) l) : k = l := by
  apply Classical.byContradiction
  intro hc
  have := sumF_two (n := 2 * p.ms.length + 2) (f := fun k => if k = 2 * b then 0 else ph p src snk R (2 * b + 1) k) (fun v hv => by
    show 0 ≤ (if v = 2 * b then (0 : Int) else ph p src snk R (2 * b + 1) v)
    split
    · exact Int.le_refl _
    · rename_i e; exact h.out_nn hb hv e) hk hl hc (by rw [if_neg h1]; exact h3) (by rw [if_neg h2]; exact h4)
  rw [h.out_sum hb] at this
  have := (h.thr hb).2.2
  omega
end FlP
structure Stp (p : Pl) (src snk : List Int) (R : Nat → Nat → Int) (a b : Int) : Prop where
  arc : (⟨a, b⟩ : Ar) ∈ p.arcs
  ok : okArc p src snk ⟨a, b⟩ = true
  fl : 0 < R (2 * b.toNat) (2 * a.toNat + 1)
  no : a ∉ snk
namespace FlP
variable {p : Pl} {src snk : List Int} {R : Nat → Nat → Int} {n : Int}
theorem arc_at (h : FlP p src snk R n) {a b : Int} (hm : (⟨a, b⟩ : Ar) ∈ p.arcs) : a.toNat < p.ms.length ∧ (a.toNat : Int) = a ∧ b.toNat < p.ms.length ∧ (b.toNat : Int) = b ∧ a.toNat ≠ b.toNat := by
  obtain ⟨i1, i2, i3, _⟩ := h.pk.ins _ hm
  have h1 := inN_lt i1
  have h2 := inN_lt i2
  exact ⟨h1.1, h1.2, h2.1, h2.2, fun e => i3 (by dsimp only at h1 h2 ⊢; omega)⟩
theorem arc_ph (h : FlP p src snk R n) {a b : Nat} (ha : a < p.ms.length) (hb : b < p.ms.length) (hab : a ≠ b) : ph p src snk R (2 * a + 1) (2 * b) = R (2 * b) (2 * a + 1) := by
  have h1 := h.anti (i := 2 * b) (j := 2 * a + 1) (by omega) (by omega)
  have h2 := (capC_bd p src snk (2 * b) (2 * a + 1)).1
  have h3 : ¬ 1 ≤ capC p src snk (2 * b) (2 * a + 1) := fun hc => by
    have := h.cap_in hb (capC_shape h.pk h.e (by have := h.pk.le; omega) hc)
    omega
  have h4 : ph p src snk R (2 * b) (2 * a + 1) = capC p src snk (2 * b) (2 * a + 1) - R (2 * b) (2 * a + 1) := rfl
  omega
theorem stp_ph (h : FlP p src snk R n) {a b : Int} (hs : Stp p src snk R a b) : 1 ≤ ph p src snk R (2 * a.toNat + 1) (2 * b.toNat) := by
  obtain ⟨h1, _, h2, _, h3⟩ := h.arc_at hs.arc
  rw [h.arc_ph h1 h2 h3]
  have := hs.fl
  omega
theorem stp_inj (h : FlP p src snk R n) {a a' b : Int} (h1 : Stp p src snk R a b) (h2 : Stp p src snk R a' b) : a = a' := by
  obtain ⟨a1, a2, a3, a4, a5⟩ := h.arc_at h1.arc
  obtain ⟨b1, b2, b3, b4, b5⟩ := h.arc_at h2.arc
  have := h.in_one a3 (k := 2 * a.toNat + 1) (l := 2 * a'.toNat + 1) (by omega) (by omega) (by omega) (by omega) (h.stp_ph h1) (h.stp_ph h2)
  omega
theorem stp_fun (h : FlP p src snk R n) {a b b' : Int} (h1 : Stp p src snk R a b) (h2 : Stp p src snk R a b') : b = b' := by
  obtain ⟨a1, a2, a3, a4, a5⟩ := h.arc_at h1.arc
  obtain ⟨b1, b2, b3, b4, b5⟩ := h.arc_at h2.arc
  have := h.out_one a1 (k := 2 * b.toNat) (l := 2 * b'.toNat) (by omega) (by omega) (by omega) (by omega) (h.stp_ph h1) (h.stp_ph h2)
  omega
theorem stp_src (h : FlP p src snk R n) {a b : Int} (h1 : Stp p src snk R a b) : b ∉ src := by
  intro hb
  have hk := h1.ok
  unfold okArc at hk
  simp only [Bool.and_eq_true, Bool.or_eq_true, contains_iff] at hk
  rcases hk.2 with h2 | h2
  · have := bg_cvR (h.e.k1 _ hb)
    rw [this] at h2; cases h2
  · exact h.e.ne _ h2 hb
theorem stp_thr (h : FlP p src snk R n) {a b : Int} (h1 : Stp p src snk R a b) : R (2 * b.toNat + 1) (2 * b.toNat) = 1 := by
  obtain ⟨a1, a2, a3, a4, a5⟩ := h.arc_at h1.arc
  have h2 := h.in_le a3 (k := 2 * a.toNat + 1) (by omega) (by omega)
  have h3 := h.stp_ph h1
  have h4 := h.thr a3
  omega
theorem stp_ex (h : FlP p src snk R n) {a : Int} (ha : inN p.ms.length a = true) (ht : R (2 * a.toNat + 1) (2 * a.toNat) = 1) (hs : a ∉ snk) : ∃ b, Stp p src snk R a b := by
  obtain ⟨h1, h2⟩ := inN_lt ha
  have h3 := h.out_sum h1
  rw [ht] at h3
  obtain ⟨k, hk, hp⟩ := sumF_ex (show 1 ≤ _ by rw [h3]; exact Int.le_refl _)
  by_cases e : k = 2 * a.toNat
  · rw [if_pos e] at hp; omega
  rw [if_neg e] at hp
  have hc := h.shape (by omega) hk hp
  generalize hi : 2 * a.toNat + 1 = i at hc
  cases hc with
  | @t m hm =>
    have := (inN_lt (h.e.in2 m hm)).2
    obtain rfl : m = a := by omega
    exact absurd hm hs
  | s hm => omega
  | @a x hx hok =>
    obtain ⟨fr, to⟩ := x
    obtain ⟨b1, b2, b3, b4, b5⟩ := h.arc_at hx
    dsimp only at hi hp
    obtain rfl : fr = a := by omega
    refine ⟨to, hx, hok, ?_, hs⟩
    rw [h.arc_ph b1 b3 b5] at hp
    omega
  | m hm => omega
end FlP
structure Chn (p : Pl) (src snk : List Int) (R : Nat → Nat → Int) (l : List Int) : Prop where
  pos : 0 < l.length
  hd : l.getD 0 0 ∈ src
  st : ∀ k, k + 1 < l.length → Stp p src snk R (l.getD k 0) (l.getD (k + 1) 0)
  th : R (2 * (l.getD (l.length - 1) 0).toNat + 1) (2 * (l.getD (l.length - 1) 0).toNat) = 1
namespace Chn
variable {p : Pl} {src snk : List Int} {R : Nat → Nat → Int} {n : Int}
theorem start {x : Int} (hx : x ∈ src) (ht : R (2 * x.toNat + 1) (2 * x.toNat) = 1) : Chn p src snk R [x] :=
  ⟨by simp, by simpa using hx, fun k hk => by simp at hk, by simpa using ht⟩
theorem getD_snoc (l : List Int) (x : Int) (k : Nat) : (l ++ [x]).getD k 0 = if k < l.length then l.getD k 0 else if k = l.length then x else 0 := by
  rw [List.getD_eq_getElem?_getD, List.getD_eq_getElem?_getD]
  split
  · rename_i h; rw [List.getElem?_append_left h]
  · rename_i h
    rw [List.getElem?_append_right (by omega)]
    split
    · rename_i h2; subst h2; simp
    · rename_i h2
      rw [List.getElem?_eq_none (by simp; omega)]; rfl
theorem snoc (hf : FlP p src snk R n) {l : List Int} (h : Chn p src snk R l) {x : Int} (hs : Stp p src snk R (l.getD (l.length - 1) 0) x) : Chn p src snk R (l ++ [x]) := by
  have hp := h.pos
  refine ⟨by simp, by rw [getD_snoc, if_pos hp]; exact h.hd, fun k hk => ?_, ?_⟩
  · rw [List.length_append, List.length_singleton] at hk
    rw [getD_snoc, getD_snoc, if_pos (by omega)]
    by_cases e : k + 1 < l.length
    · rw [if_pos e]; exact h.st k e
    · rw [if_neg e, if_pos (by omega)]
      obtain rfl : k = l.length - 1 := by omega
      exact hs
  · rw [List.length_append, List.length_singleton, Nat.add_sub_cancel, getD_snoc, if_neg (by omega), if_pos rfl]
    exact hf.stp_thr hs
theorem eq (hf : FlP p src snk R n) {l l' : List Int} (h : Chn p src snk R l) (h' : Chn p src snk R l') : ∀ i j, i < l.length → j < l'.length → l.getD i 0 = l'.getD j 0 → i = j ∧ l.getD 0 0 = l'.getD 0 0
  | 0, 0, _, _, e => ⟨rfl, e⟩
  | 0, j + 1, _, hj, e => absurd (e ▸ h.hd) (hf.stp_src (h'.st j hj))
  | i + 1, 0, hi, _, e => absurd (e ▸ h'.hd) (hf.stp_src (h.st i hi))
  | i + 1, j + 1, hi, hj, e => by
    have h1 := h.st i hi
    have h2 := h'.st j hj
    rw [e] at h1
    obtain ⟨k1, k2⟩ := eq hf h h' i j (by omega) (by omega) (hf.stp_inj h1 h2)
    exact ⟨by omega, k2⟩
theorem ins (hf : FlP p src snk R n) {l : List Int} (h : Chn p src snk R l) : ∀ k, k < l.length → inN p.ms.length (l.getD k 0) = true
  | 0, _ => hf.e.in1 _ h.hd
  | k + 1, hk => (hf.pk.ins _ (h.st k hk).arc).2.1
theorem nodup (hf : FlP p src snk R n) {l : List Int} (h : Chn p src snk R l) : l.Nodup := by
  rw [List.nodup_iff_pairwise_ne, List.pairwise_iff_getElem]
  intro i j hi hj hij e
  have := (h.eq hf h i j hi hj (by rw [List.getD_eq_getElem?_getD, List.getD_eq_getElem?_getD, List.getElem?_eq_getElem hi, List.getElem?_eq_getElem hj, e])).1
  omega
theorem len (hf : FlP p src snk R n) {l : List Int} (h : Chn p src snk R l) : l.length ≤ p.ms.length := by
  have h1 : (l.map Int.toNat).Nodup := by
    rw [List.nodup_iff_pairwise_ne, List.pairwise_map]
    refine List.Pairwise.imp_of_mem ?_ (List.nodup_iff_pairwise_ne.1 (h.nodup hf))
    intro a b ha hb hab e
    obtain ⟨i, hi, rfl⟩ := List.mem_iff_getElem.1 ha
    obtain ⟨j, hj, rfl⟩ := List.mem_iff_getElem.1 hb
    have k1 := inN_lt (h.ins hf i hi)
    have k2 := inN_lt (h.ins hf j hj)
    rw [List.getD_eq_getElem?_getD, List.getElem?_eq_getElem hi] at k1
    rw [List.getD_eq_getElem?_getD, List.getElem?_eq_getElem hj] at k2
    dsimp only [Option.getD_some] at k1 k2
    exact hab (by omega)
  have h2 : (l.map Int.toNat).length ≤ (List.range p.ms.length).length := h1.length_le_of_subset fun x hx => by
    obtain ⟨y, hy, rfl⟩ := List.mem_map.1 hx
    obtain ⟨i, hi, rfl⟩ := List.mem_iff_getElem.1 hy
    have k1 := inN_lt (h.ins hf i hi)
    rw [List.getD_eq_getElem?_getD, List.getElem?_eq_getElem hi] at k1
    exact List.mem_range.2 k1.1
  simpa using h2
theorem path (hf : FlP p src snk R n) {l : List Int} (h : Chn p src snk R l) (hl : l.getD (l.length - 1) 0 ∈ snk) : pathE p l = 0 := by
  have hin : l.any (fun x => !inN p.ms.length x) = false := by
    rw [List.any_eq_false]
    intro x hx
    obtain ⟨i, hi, rfl⟩ := List.mem_iff_getElem.1 hx
    have k1 := h.ins hf i hi
    rw [List.getD_eq_getElem?_getD, List.getElem?_eq_getElem hi, Option.getD_some] at k1
    rw [k1]; simp
  rw [pathE_in hin, if_pos]
  have hp := h.pos
  have h2 : 2 ≤ l.length := by
    apply Classical.byContradiction
    intro hc
    have e : l.length - 1 = 0 := by omega
    rw [e] at hl
    exact hf.e.ne _ hl h.hd
  refine (pathB_iff p l).2 ⟨h2, hf.e.k1 _ h.hd, hf.e.k2 _ hl, h.nodup hf, fun k hk => ?_⟩
  unfold okK
  cases k with
  | zero => simp
  | succ k =>
    have hs := h.st k hk
    rw [Nat.add_sub_cancel, decide_eq_true hs.arc]
    by_cases e : k + 1 + 1 = l.length
    · simp [e]
    · have hno := (h.st (k + 1) (by omega)).no
      have hok := hs.ok
      unfold okArc at hok
      simp only [Bool.and_eq_true, Bool.or_eq_true, contains_iff] at hok
      rw [hok.2.resolve_right hno]; simp
end Chn
end Go.Proofs.YtahpdkkpnkhnhaaGreatDoor
/- Walks: whether two states are the same, in the reference. -/
namespace Go.Proofs.YtahpdkkpnkhnhaaGreatDoor
open Go Go.Proofs Go.RowKit Go.Shelf
set_option maxRecDepth 100000 in
set_option maxHeartbeats 1000000 in
@[go_sem] theorem eq100 (r1 r2 : Bool) (f1 f2 : Int) (g1 g2 : ByteArray) (w : World) : (Op.equalIn 10000 100 (.agg #[.bool r1, .int .i64 f1, .string g1]) (.agg #[.bool r2, .int .i64 f2, .string g2])).run Tryz.prog w = .ok (r1 == r2 && (f1 == f2 && g1.toList == g2.toList)) w := by
  have u3 := Tryz.underlying3
  have u4 := Tryz.underlying4
  have u9 := Tryz.underlying9
  have a3 := Tryz.isAgg3
  have a4 := Tryz.isAgg4
  have a9 := Tryz.isAgg9
  have z3 := Tryz.sizeOf3
  have z4 := Tryz.sizeOf4
  have z9 := Tryz.sizeOf9
  rw [show (10000 : Nat) = 9999 + 1 from rfl, Op.equalIn]
  simp only [Sem.run_bind, run_underlying Tryz.underlying100, Result.andThen_ok]
  go_simp
  by_cases h1 : r1 = r2 <;> by_cases h2 : f1 = f2 <;> by_cases h3 : g1.toList = g2.toList <;> simp [h1, h2, h3]
def eqX (a b : Sx) : Bool := a.runs == b.runs && (a.feeds == b.feeds && a.grain.toList == b.grain.toList)
def sameB : List Sx → List Sx → Bool
  | [], [] => true
  | a :: r, b :: s => eqX a b && sameB r s
  | _, _ => false
end Go.Proofs.YtahpdkkpnkhnhaaGreatDoor
/- Walks: small helpers of the laws on states; whether a machine is fed. -/
namespace Go.Proofs.YtahpdkkpnkhnhaaGreatDoor
open Go Go.Proofs Go.RowKit Go.Shelf
def SlL {α : Type} (f : α → List Value) (sz : Nat) (w : World) (B : Nat) (v : Value) (l : List α) : Prop :=
  ∃ a c, v = .slice a l.length c ∧ (l.length ≤ 9223372036854775807 ∧ l.length ≤ c) ∧ (0 < l.length → ∃ b off, a = some ⟨b, off, none⟩ ∧ b < B ∧
    ∀ i (h : i < l.length), At w b (off + i * sz) (f l[i]))
theorem SlL.later {α : Type} {f : α → List Value} {sz : Nat} {w w' : World} {v : Value} {l : List α} (h : SlL f sz w w.heap.size v l) (hb : Below w.heap.size w w') : SlL f sz w' w'.heap.size v l := by
  obtain ⟨a, c, h1, h2, h3⟩ := h
  refine ⟨a, c, h1, h2, fun h0 => ?_⟩
  obtain ⟨b, off, h4, h5, h6⟩ := h3 h0
  exact ⟨b, off, h4, Nat.lt_of_lt_of_le h5 hb.size, fun i hi => (h6 i hi).below hb h5⟩
theorem SlL.short {α : Type} {f : α → List Value} {sz : Nat} {w : World} {B : Nat} {v : Value} {l : List α} (h : SlL f sz w B v l) (hl : l.length ≤ 1000000000) : Sl f sz w B v l := by
  obtain ⟨a, c, h1, h2, h3⟩ := h
  exact ⟨a, c, h1, ⟨hl, h2.2⟩, h3⟩
end Go.Proofs.YtahpdkkpnkhnhaaGreatDoor
/- Walks: the law PathStarts. -/
namespace Go.Proofs.YtahpdkkpnkhnhaaGreatDoor
open Go Go.Proofs Go.RowKit Go.Shelf
theorem StE.good {w : World} {L : List Sx} {e : Ending} {w' : World} (h : StE w 0 L e w') (hl : L.length ≤ 1000000000) : ∃ v, e = .returned (.tuple #[v, .int .i64 0]) ∧ Sl Sx.enc 3 w' w'.heap.size v L ∧ Below w.heap.size w w' := by
  obtain ⟨v, rfl, ho, hb⟩ := h
  rw [if_neg (by simp)] at ho
  exact ⟨v, rfl, ho.toSl Sx.enc_len hl, hb⟩
theorem StatePost.good {w : World} {L : List Sx} {e : Ending} {w' : World} (h : StatePost w L e w') (hl : L.length ≤ 1000000000) : ∃ v, e = .returned v ∧ Sl Sx.enc 3 w' w'.heap.size v L ∧ Below w.heap.size w w' := by
  obtain ⟨v, rfl, ho, hb⟩ := h
  exact ⟨v, rfl, ho.toSl Sx.enc_len hl, hb⟩
end Go.Proofs.YtahpdkkpnkhnhaaGreatDoor
/- Walks: Stop and Resume of the reference. -/
namespace Go.Proofs.YtahpdkkpnkhnhaaGreatDoor
open Go Go.Proofs Go.RowKit Go.Shelf
theorem getD_set (L : List Sx) (i x : Nat) (v : Sx) : (L.set i v).getD x s0 = if i = x ∧ i < L.length then v else L.getD x s0 := by
  rw [List.getD_eq_getElem?_getD, List.getElem?_set, List.getD_eq_getElem?_getD]
  by_cases h : i = x
  · subst h
    by_cases h2 : i < L.length
    · simp [h2]
    · simp [h2]
  · simp [h]
end Go.Proofs.YtahpdkkpnkhnhaaGreatDoor
/- Walks: Resume of the reference. -/
namespace Go.Proofs.YtahpdkkpnkhnhaaGreatDoor
open Go Go.Proofs Go.RowKit Go.Shelf
def resumeV (p : Pl) (l : List Int) (k : Nat) (s : Sx) : Sx := ⟨cvB (kdA p (l.getD k 0)), s.feeds, s.grain⟩
def resumeTo (p : Pl) (l : List Int) (st : List Sx) : Nat → List Sx
  | 0 => st
  | k + 1 => (resumeTo p l st k).set (l.getD k 0).toNat (resumeV p l k ((resumeTo p l st k).getD (l.getD k 0).toNat s0))
end Go.Proofs.YtahpdkkpnkhnhaaGreatDoor
/- Walks: Fault of the reference. -/
namespace Go.Proofs.YtahpdkkpnkhnhaaGreatDoor
open Go Go.Proofs Go.RowKit Go.Shelf
def offX (s : Sx) : Sx := ⟨false, s.feeds, s.grain⟩
def offAt (L : List Sx) (m : Int) : List Sx := L.set m.toNat (offX (L.getD m.toNat s0))
def offL (st : List Sx) (l : List Int) : List Sx := l.foldl offAt st
theorem offAt_len (L : List Sx) (m : Int) : (offAt L m).length = L.length := List.length_set
theorem offL_len : ∀ (l : List Int) (st : List Sx), (offL st l).length = st.length
  | [], _ => rfl
  | m :: l, st => (offL_len l (offAt st m)).trans (offAt_len st m)
end Go.Proofs.YtahpdkkpnkhnhaaGreatDoor
/- Walks: Shortest of the reference. -/
namespace Go.Proofs.YtahpdkkpnkhnhaaGreatDoor
open Go Go.Proofs Go.RowKit Go.Shelf
structure BfM (W1 wr : World) (n : Nat) (p : Pl) (bl : List Int) (to fr : Int) (T : List Int) : Prop where
  o : Own encI 1 3 wr W1.heap.size (.slice (some ⟨W1.heap.size, 0, none⟩) n n) T
  b : BfR p bl to fr T
  l : T.length = n
  w : Below W1.heap.size W1 wr
theorem BfM.cell {W1 wr : World} {n : Nat} {p : Pl} {bl : List Int} {to fr : Int} {T : List Int} (h : BfM W1 wr n p bl to fr T) {x : Nat} (hx : x < n) : wr.cell? ⟨W1.heap.size, x, none⟩ = some (.int .i64 (T.getD x 0)) := by
  have h1 := (h.o.atN h.l encI_len x (by rw [h.l]; exact hx)).c1
  rw [Nat.mul_one] at h1
  rw [h1, List.getD_eq_getElem?_getD, List.getElem?_eq_getElem (by rw [h.l]; exact hx)]
  rfl
theorem BfM.drew {W1 wr : World} {n : Nat} {p : Pl} {bl : List Int} {to fr : Int} {T : List Int} (h : BfM W1 wr n p bl to fr T) (q : Nat) : BfM W1 (wr.drewN q) n p bl to fr T := ⟨h.o.drewN q, h.b, h.l, below_drewN h.w q⟩
end Go.Proofs.YtahpdkkpnkhnhaaGreatDoor
