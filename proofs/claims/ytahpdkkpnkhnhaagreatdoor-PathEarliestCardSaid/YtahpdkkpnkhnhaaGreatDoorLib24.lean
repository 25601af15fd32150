/- Lemmas on the way to the laws (part 24): Dd De Df -/
import Derived.Test.YtahpdkkpnkhnhaaGreatDoorLib23
import Derived.Deep.RegionWith
set_option linter.unusedVariables false
set_option linter.unusedSimpArgs false

/- Walks: slices.Sorted and slices.Compact, at int: what they tell of a list. -/
namespace Go.Proofs.YtahpdkkpnkhnhaaGreatDoor
open Go Go.Proofs Go.RowKit Go.Shelf

theorem own_putg {w : World} {base g n cap m : Nat} {L T : List Int} (os : Array Obj) (h : Own encI 1 3 w base (.slice (some ⟨g, 0, none⟩) n cap) L) (hn : L.length = n) (hT : T.length = n) :
    Own encI 1 3 (Sort.grow (Sort.putRow (Value.int .i64) (Sort.ahead w m) g 0 T.toArray) os) base (.slice (some ⟨g, 0, none⟩) n cap) T ∧ w.grownBy (Sort.grow (Sort.putRow (Value.int .i64) (Sort.ahead w m) g 0 T.toArray) os) (some g) := by
  have h1 := own_rev (m := m) h hn hT
  have h2 : w.grownBy (Sort.putRow (Value.int .i64) (Sort.ahead w m) g 0 T.toArray) (some g) := by
    refine ⟨rfl, rfl, rfl, by simp [Sort.putRow, Sort.mapBlock, Sort.ahead], fun k hk hne => ?_⟩
    have : g ≠ k := fun e => hne (by rw [e])
    simp [Sort.putRow, Sort.mapBlock, Sort.ahead, Array.getElem?_modify, this]
  generalize Sort.putRow (Value.int .i64) (Sort.ahead w m) g 0 T.toArray = X at *
  have h3 : X.grownBy (Sort.grow X os) none := ⟨rfl, rfl, rfl, by simp [Sort.grow], fun k hk _ => by simp [Sort.grow, Array.getElem?_append_left hk]⟩
  refine ⟨h1.kept h3 (.inr (by simp [Value.ownBlock])), ?_⟩
  exact ⟨h3.os.trans h2.os, h3.tape.trans h2.tape, h3.output.trans h2.output, Nat.le_trans h2.size h3.size, fun k hk hne => (h3.block k (Nat.lt_of_lt_of_le hk h2.size) (by simp)).trans (h2.block k hk hne)⟩

theorem holds_own {w : World} {base g n cap : Nat} {L : List Int} (h : Own encI 1 3 w base (.slice (some ⟨g, 0, none⟩) n cap) L) (hn : L.length = n) : Sort.Holds (Value.int .i64) w g 0 L.toArray := by
  intro j hj
  have hj' : j < L.length := by simpa using hj
  refine ⟨?_, h.frozenN hn _⟩
  have h1 := (h.atN hn encI_len j hj').c1
  rw [Nat.mul_one] at h1
  rw [Nat.zero_add, h1]
  simp [hj']
def sortI (l : List Int) : List Int := l.mergeSort fun x y => decide (x ≤ y)
theorem sortI_len (l : List Int) : (sortI l).length = l.length := by unfold sortI; simp
theorem encI_flat (l : List Int) : l.flatMap encI = l.map fun x => .int .i64 x := by
  induction l with
  | nil => rfl
  | cons x l ih => rw [List.flatMap_cons, ih]; rfl

set_option maxRecDepth 100000 in
set_option maxHeartbeats 400000 in
theorem collect152 (q B : Nat) (v : Value) (l : List Int) (w : World) (hit : VlR w q B v l) (hl : l.length ≤ 1000000000) :
    Calls Tryz.prog 152 #[.func (.func 154) #[] #[.pointer (some ⟨q, 0, none⟩)]] w fun e w' => ∃ v', e = .returned v' ∧ Own encI 1 3 w' w.heap.size v' l ∧ Below w.heap.size w w' := by
  have H := Lib.hid (callsIn_wide.1 (appendSeq160 q B v l w hit hl))
  clear hit
  go_enter Tryz.func152, Tryz.ntmps152
  go_wp2_with (go_at_call 160; refine H.out.mono ?_; rintro e w' ⟨v', rfl, ho, hb⟩)
  go_ret
  exact ⟨_, rfl, by unfold Own; rw [encI_flat]; exact ho, hb⟩

set_option maxRecDepth 100000 in
set_option maxHeartbeats 400000 in
theorem sorted134 (q B : Nat) (v : Value) (l : List Int) (w : World) (hit : VlR w q B v l) (hl : l.length ≤ 1000000000) :
    Calls Tryz.prog 134 #[.func (.func 154) #[] #[.pointer (some ⟨q, 0, none⟩)]] w fun e w' => ∃ v', e = .returned v' ∧ Own encI 1 3 w' w.heap.size v' (sortI l) ∧ Below w.heap.size w w' := by
  have H := Lib.hid (collect152 q B v l w hit hl)
  clear hit
  obtain ⟨Q, hQ⟩ : ∃ Q : Ending → World → Prop, (fun e w' => ∃ v', e = .returned v' ∧ Own encI 1 3 w' w.heap.size v' (sortI l) ∧ Below w.heap.size w w') = Q := ⟨_, rfl⟩
  rw [hQ]
  have HQ : Hid (∀ v' T w', Own encI 1 3 w' w.heap.size v' T → T = sortI l → Below w.heap.size w w' → Q (.returned v') w') := Lib.hid (fun v' T w' h1 h2 h3 => by rw [← hQ]; subst h2; exact ⟨v', rfl, h1, h3⟩)
  have HSL := Lib.hid (sortI_len l)
  have HSE : Hid (l.mergeSort (fun x y => decide (x ≤ y)) = sortI l) := Lib.hid rfl
  generalize sortI l = T at *
  clear hQ
  go_enter Tryz.func134, Tryz.ntmps134
  go_wp2_with (go_at_call 152; refine H.out.mono ?_; rintro e w1 ⟨v', rfl, ho, hb⟩)
  obtain ⟨n, hn⟩ : ∃ n, l.length = n := ⟨_, rfl⟩
  rw [hn] at hl HSL
  obtain ⟨a, c, rfl⟩ := ho.shape
  rw [hn] at ho ⊢
  have HN := Lib.hid hn
  cases n with
  | zero =>
    have : T = [] := List.eq_nil_of_length_eq_zero HSL.out
    subst this
    have : l = [] := List.eq_nil_of_length_eq_zero hn
    subst this
    have HO := Lib.hid ho
    have HB := Lib.hid hb
    clear ho hb H hn
    go_wp2_with (go_at_call 153; refine (Tryz.slices_Sort_int_none a c w1).mono ?_; rintro e w' ⟨rfl, rfl⟩)
    exact HQ.out _ _ _ HO.out rfl HB.out
  | succ n =>
    obtain ⟨g, cap, e1, hg1, hg2⟩ := ho.form (by omega)
    rw [hn] at e1
    simp only [Value.slice.injEq, true_and] at e1
    obtain ⟨rfl, rfl⟩ := e1
    have HS := Lib.hid (Tryz.slices_Sort_int g 0 c l w1 (holds_own ho hn) ho.ltN.2 (by omega))
    rw [hn, HSE.out] at HS
    have HO := Lib.hid ho
    have HB := Lib.hid hb
    have HG := Lib.hid hg1
    clear ho hb hn hg1 hg2 H
    go_wp2_with (go_at_call 153; refine HS.out.mono ?_; rintro e w' ⟨rfl, m, os, rfl⟩)
    obtain ⟨k1, k2⟩ := own_putg (m := m) (T := T) os HO.out HN.out HSL.out
    exact HQ.out _ _ _ k1 rfl (HB.out.grown k2 HB.out.size fun k e => by cases e; exact HG.out)

/-- How long the list is without its neighbours that are alike. -/
def cptN (l : List Int) : Nat := (Lib.compact (sortI l)).length
theorem cpt_le (T : List Int) : (Lib.compact T).length ≤ T.length := by
  unfold Lib.compact Lib.compactUpTo
  rw [List.length_map]
  exact Nat.le_trans (List.length_filter_le _ _) (by simp)
theorem compact133 (base : Nat) (v : Value) (l : List Int) (w : World) (ho : Own encI 1 3 w base v (sortI l)) (hB : base ≤ w.heap.size) (hl : l.length ≤ 1000000000) :
    Calls Tryz.prog 133 #[v] w fun e w' => ∃ a c, e = .returned (.slice a (cptN l) c) ∧ Below base w w' := by
  have hT := sortI_len l
  unfold cptN
  generalize sortI l = T at *
  obtain ⟨n, hn⟩ : ∃ n, T.length = n := ⟨_, rfl⟩
  obtain ⟨a, c, rfl⟩ := ho.shape
  rw [hn] at ho ⊢
  cases n with
  | zero =>
    have : T = [] := List.eq_nil_of_length_eq_zero hn
    subst this
    refine (Tryz.slices_Compact_int_empty a c w).mono ?_
    rintro e w' ⟨rfl, rfl⟩
    exact ⟨a, c, rfl, Below.refl _ _⟩
  | succ n =>
    obtain ⟨g, cap, e1, hg1, hg2⟩ := ho.form (by omega)
    rw [hn] at e1
    simp only [Value.slice.injEq, true_and] at e1
    obtain ⟨rfl, rfl⟩ := e1
    have hcap : n + 1 ≤ c := by
      rcases ho.2 with ⟨h0, _⟩ | ⟨g', cap', cur, e1, _, _, h3, _⟩
      · cases h0
      · simp only [Value.slice.injEq] at e1
        obtain ⟨_, _, rfl⟩ := e1
        omega
    have hc := Tryz.slices_Compact_int g 0 c T w (holds_own ho hn) (by omega) (by rw [hn]; exact hcap)
    have hle := cpt_le T
    rw [hn] at hc hle
    generalize Lib.compact T = X at *
    refine hc.mono ?_
    rintro e w' ⟨rfl, m, rfl⟩
    obtain ⟨_, k2⟩ := own_putg (m := m) (T := X ++ List.replicate (n + 1 - X.length) 0) #[] ho hn (by
      rw [List.length_append, List.length_replicate]; omega)
    rw [Sort.grow_empty] at k2
    exact ⟨_, _, rfl, (Below.refl base w).grown k2 hB fun k e => by cases e; exact hg1⟩

theorem keeps_iff (l : List Int) (j : Nat) (hj : j < l.length) : Lib.keeps l.toArray j = true ↔ j = 0 ∨ l.getD j 0 ≠ l.getD (j - 1) 0 := by
  unfold Lib.keeps
  have e1 : l.toArray[j]! = l.getD j 0 := by simp [hj, List.getD_eq_getElem?_getD]
  have e2 : l.toArray[j - 1]! = l.getD (j - 1) 0 := by simp [show j - 1 < l.length by omega, List.getD_eq_getElem?_getD]
  rw [e1, e2]
  simp
theorem cpt_all (l : List Int) : (Lib.compact l).length = l.length ↔ ∀ j, j < l.length → Lib.keeps l.toArray j = true := by
  unfold Lib.compact Lib.compactUpTo
  rw [List.length_map]
  have : (List.range l.length).length = l.length := by simp
  constructor
  · intro h j hj
    rw [← this] at h
    rw [this] at h
    have h2 : ((List.range l.length).filter (Lib.keeps l.toArray)).length = (List.range l.length).length := by rw [this]; exact h
    exact List.length_filter_eq_length_iff.1 h2 j (by simpa using hj)
  · intro h
    have h2 : ((List.range l.length).filter (Lib.keeps l.toArray)).length = (List.range l.length).length := List.length_filter_eq_length_iff.2 fun j hj => h j (by simpa using hj)
    rw [h2, this]
theorem sorted_nodup (l : List Int) (hs : l.Pairwise fun a b => a ≤ b) : (∀ j, j < l.length → j = 0 ∨ l.getD j 0 ≠ l.getD (j - 1) 0) ↔ l.Nodup := by
  have hg : ∀ i (h : i < l.length), l.getD i 0 = l[i] := fun i h => getD_at l i h
  constructor
  · intro h
    have hlt : ∀ i, ∀ j, i < j → j < l.length → l.getD i 0 < l.getD j 0 := by
      intro i j
      induction j with
      | zero => intro h; omega
      | succ j ih =>
        intro hij hj
        have h1 : l.getD j 0 ≤ l.getD (j + 1) 0 := by
          rw [hg j (by omega), hg (j + 1) hj]
          exact List.pairwise_iff_getElem.1 hs j (j + 1) (by omega) hj (by omega)
        have h2 := (h (j + 1) hj).resolve_left (by omega)
        rw [Nat.add_sub_cancel] at h2
        rcases Nat.lt_succ_iff_lt_or_eq.1 hij with h3 | h3
        · have := ih h3 (by omega); omega
        · subst h3; omega
    rw [List.nodup_iff_pairwise_ne, List.pairwise_iff_getElem]
    intro i j hi hj hij e
    have := hlt i j hij hj
    rw [hg i hi, hg j hj] at this
    omega
  · intro h j hj
    by_cases h0 : j = 0
    · exact .inl h0
    · refine .inr fun e => ?_
      rw [hg j hj, hg (j - 1) (by omega)] at e
      have := List.pairwise_iff_getElem.1 (List.nodup_iff_pairwise_ne.1 h) (j - 1) j (by omega) hj (by omega)
      exact this e.symm
/-- The list is as long as before just where nothing stands in it twice. -/
theorem cptN_iff (l : List Int) : cptN l = l.length ↔ l.Nodup := by
  have hp : (sortI l).Perm l := List.mergeSort_perm _ _
  have hs : (sortI l).Pairwise fun a b => a ≤ b := by
    have := List.pairwise_mergeSort (le := fun x y : Int => decide (x ≤ y)) (fun a b c h1 h2 => by simp at *; omega) (fun a b => by simp; omega) l
    exact this.imp fun h => by simpa using h
  rw [← hp.nodup_iff, ← sorted_nodup _ hs, ← sortI_len l]
  unfold cptN
  rw [cpt_all]
  exact ⟨fun h j hj => (keeps_iff _ j hj).1 (h j hj), fun h j hj => (keeps_iff _ j hj).2 (h j hj)⟩
theorem cptN_dup (l : List Int) : ((cptN l : Int) != (l.length : Int)) = dupB l := by
  cases h : dupB l with
  | false =>
    have := (cptN_iff l).2 ((nodup_dup l).1 h)
    simp [this]
  | true =>
    have : cptN l ≠ l.length := fun e => by rw [(nodup_dup l).2 ((cptN_iff l).1 e)] at h; cases h
    simp; omega
end Go.Proofs.YtahpdkkpnkhnhaaGreatDoor

/- Walks: checkEnds: whether a number stands twice in a list. -/
namespace Go.Proofs.YtahpdkkpnkhnhaaGreatDoor
open Go Go.Proofs Go.RowKit Go.Shelf

def fr150 (N : Nat) (q0 q1 u q5 q7 q10 q11 q12 q13 q42 q43 q44 : Value) (g b k : Nat) (z : Nat → Value) : List Value := [q0, q1, u, .pointer (some ⟨N, 0, none⟩), .pointer (some ⟨N + 1, 0, none⟩), q5, z 6, q7, .pointer (some ⟨b, 0, none⟩), z 9, q10, q11, q12, q13, .slice (some ⟨g, 0, none⟩) 2 2, .int .i64 2, .int .i64 k, z 17, z 18, z 19, z 20, z 21, z 22, z 23, z 24, z 25, z 26, z 27, z 28, z 29, z 30, z 31, z 32, z 33, z 34, z 35, z 36, z 37, z 38, z 39, z 40, z 41, q42, q43, q44]
theorem fr150_of (N : Nat) (q0 q1 u q5 q7 q10 q11 q12 q13 q42 q43 q44 : Value) (g b k : Nat) (L : List Value) (hL : L.length = 45) (h0 : L[0]? = some (q0)) (h1 : L[1]? = some (q1)) (h2 : L[2]? = some (u)) (h3 : L[3]? = some (.pointer (some ⟨N, 0, none⟩))) (h4 : L[4]? = some (.pointer (some ⟨N + 1, 0, none⟩))) (h5 : L[5]? = some (q5)) (h7 : L[7]? = some (q7)) (h8 : L[8]? = some (.pointer (some ⟨b, 0, none⟩))) (h10 : L[10]? = some (q10)) (h11 : L[11]? = some (q11)) (h12 : L[12]? = some (q12)) (h13 : L[13]? = some (q13)) (h14 : L[14]? = some (.slice (some ⟨g, 0, none⟩) 2 2)) (h15 : L[15]? = some (.int .i64 2)) (h16 : L[16]? = some (.int .i64 k)) (h42 : L[42]? = some (q42)) (h43 : L[43]? = some (q43)) (h44 : L[44]? = some (q44)) : ∃ z, L = fr150 N q0 q1 u q5 q7 q10 q11 q12 q13 q42 q43 q44 g b k z := by
  refine ⟨fun i => L.getD i undef, ?_⟩
  unfold fr150
  have e := list_range L 45 hL
  have e0 : L.getD 0 undef = q0 := by rw [List.getD_eq_getElem?_getD, h0]; rfl
  have e1 : L.getD 1 undef = q1 := by rw [List.getD_eq_getElem?_getD, h1]; rfl
  have e2 : L.getD 2 undef = u := by rw [List.getD_eq_getElem?_getD, h2]; rfl
  have e3 : L.getD 3 undef = .pointer (some ⟨N, 0, none⟩) := by rw [List.getD_eq_getElem?_getD, h3]; rfl
  have e4 : L.getD 4 undef = .pointer (some ⟨N + 1, 0, none⟩) := by rw [List.getD_eq_getElem?_getD, h4]; rfl
  have e5 : L.getD 5 undef = q5 := by rw [List.getD_eq_getElem?_getD, h5]; rfl
  have e7 : L.getD 7 undef = q7 := by rw [List.getD_eq_getElem?_getD, h7]; rfl
  have e8 : L.getD 8 undef = .pointer (some ⟨b, 0, none⟩) := by rw [List.getD_eq_getElem?_getD, h8]; rfl
  have e10 : L.getD 10 undef = q10 := by rw [List.getD_eq_getElem?_getD, h10]; rfl
  have e11 : L.getD 11 undef = q11 := by rw [List.getD_eq_getElem?_getD, h11]; rfl
  have e12 : L.getD 12 undef = q12 := by rw [List.getD_eq_getElem?_getD, h12]; rfl
  have e13 : L.getD 13 undef = q13 := by rw [List.getD_eq_getElem?_getD, h13]; rfl
  have e14 : L.getD 14 undef = .slice (some ⟨g, 0, none⟩) 2 2 := by rw [List.getD_eq_getElem?_getD, h14]; rfl
  have e15 : L.getD 15 undef = .int .i64 2 := by rw [List.getD_eq_getElem?_getD, h15]; rfl
  have e16 : L.getD 16 undef = .int .i64 k := by rw [List.getD_eq_getElem?_getD, h16]; rfl
  have e42 : L.getD 42 undef = q42 := by rw [List.getD_eq_getElem?_getD, h42]; rfl
  have e43 : L.getD 43 undef = q43 := by rw [List.getD_eq_getElem?_getD, h43]; rfl
  have e44 : L.getD 44 undef = q44 := by rw [List.getD_eq_getElem?_getD, h44]; rfl
  rw [← e0, ← e1, ← e2, ← e3, ← e4, ← e5, ← e7, ← e8, ← e10, ← e11, ← e12, ← e13, ← e14, ← e15, ← e16, ← e42, ← e43, ← e44]
  exact e
theorem fr150_act (N : Nat) (q0 q1 u q5 q7 q10 q11 q12 q13 q42 q43 q44 : Value) (g b k : Nat) (A : Act) (ds : List Deferred) (hds : A.defers = ds) (hL : A.tmps.size = 45) (h0 : A.tmps[0]? = some (q0)) (h1 : A.tmps[1]? = some (q1)) (h2 : A.tmps[2]? = some (u)) (h3 : A.tmps[3]? = some (.pointer (some ⟨N, 0, none⟩))) (h4 : A.tmps[4]? = some (.pointer (some ⟨N + 1, 0, none⟩))) (h5 : A.tmps[5]? = some (q5)) (h7 : A.tmps[7]? = some (q7)) (h8 : A.tmps[8]? = some (.pointer (some ⟨b, 0, none⟩))) (h10 : A.tmps[10]? = some (q10)) (h11 : A.tmps[11]? = some (q11)) (h12 : A.tmps[12]? = some (q12)) (h13 : A.tmps[13]? = some (q13)) (h14 : A.tmps[14]? = some (.slice (some ⟨g, 0, none⟩) 2 2)) (h15 : A.tmps[15]? = some (.int .i64 2)) (h16 : A.tmps[16]? = some (.int .i64 k)) (h42 : A.tmps[42]? = some (q42)) (h43 : A.tmps[43]? = some (q43)) (h44 : A.tmps[44]? = some (q44)) : ∃ z, A = { tmps := (fr150 N q0 q1 u q5 q7 q10 q11 q12 q13 q42 q43 q44 g b k z).toArray, defers := ds } := by
  obtain ⟨z, e⟩ := fr150_of N q0 q1 u q5 q7 q10 q11 q12 q13 q42 q43 q44 g b k A.tmps.toList (by rw [Array.length_toList]; exact hL) (by rw [Array.getElem?_toList]; exact h0) (by rw [Array.getElem?_toList]; exact h1) (by rw [Array.getElem?_toList]; exact h2) (by rw [Array.getElem?_toList]; exact h3) (by rw [Array.getElem?_toList]; exact h4) (by rw [Array.getElem?_toList]; exact h5) (by rw [Array.getElem?_toList]; exact h7) (by rw [Array.getElem?_toList]; exact h8) (by rw [Array.getElem?_toList]; exact h10) (by rw [Array.getElem?_toList]; exact h11) (by rw [Array.getElem?_toList]; exact h12) (by rw [Array.getElem?_toList]; exact h13) (by rw [Array.getElem?_toList]; exact h14) (by rw [Array.getElem?_toList]; exact h15) (by rw [Array.getElem?_toList]; exact h16) (by rw [Array.getElem?_toList]; exact h42) (by rw [Array.getElem?_toList]; exact h43) (by rw [Array.getElem?_toList]; exact h44)
  exact ⟨z, by cases A; subst hds; dsimp only at e ⊢; rw [← e]⟩

def fr150d (N : Nat) (q0 q1 u q5 q7 q10 q11 q12 q13 q42 q43 q44 : Value) (g b k : Nat) (d : Bool) (z : Nat → Value) : List Value := [q0, q1, u, .pointer (some ⟨N, 0, none⟩), .pointer (some ⟨N + 1, 0, none⟩), q5, z 6, q7, .pointer (some ⟨b, 0, none⟩), z 9, q10, q11, q12, q13, .slice (some ⟨g, 0, none⟩) 2 2, .int .i64 2, .int .i64 k, z 17, z 18, z 19, z 20, z 21, z 22, z 23, z 24, z 25, z 26, z 27, z 28, z 29, z 30, z 31, z 32, z 33, z 34, z 35, z 36, z 37, z 38, z 39, .bool d, z 41, q42, q43, q44]
theorem fr150d_of (N : Nat) (q0 q1 u q5 q7 q10 q11 q12 q13 q42 q43 q44 : Value) (g b k : Nat) (d : Bool) (L : List Value) (hL : L.length = 45) (h0 : L[0]? = some (q0)) (h1 : L[1]? = some (q1)) (h2 : L[2]? = some (u)) (h3 : L[3]? = some (.pointer (some ⟨N, 0, none⟩))) (h4 : L[4]? = some (.pointer (some ⟨N + 1, 0, none⟩))) (h5 : L[5]? = some (q5)) (h7 : L[7]? = some (q7)) (h8 : L[8]? = some (.pointer (some ⟨b, 0, none⟩))) (h10 : L[10]? = some (q10)) (h11 : L[11]? = some (q11)) (h12 : L[12]? = some (q12)) (h13 : L[13]? = some (q13)) (h14 : L[14]? = some (.slice (some ⟨g, 0, none⟩) 2 2)) (h15 : L[15]? = some (.int .i64 2)) (h16 : L[16]? = some (.int .i64 k)) (h40 : L[40]? = some (.bool d)) (h42 : L[42]? = some (q42)) (h43 : L[43]? = some (q43)) (h44 : L[44]? = some (q44)) : ∃ z, L = fr150d N q0 q1 u q5 q7 q10 q11 q12 q13 q42 q43 q44 g b k d z := by
  refine ⟨fun i => L.getD i undef, ?_⟩
  unfold fr150d
  have e := list_range L 45 hL
  have e0 : L.getD 0 undef = q0 := by rw [List.getD_eq_getElem?_getD, h0]; rfl
  have e1 : L.getD 1 undef = q1 := by rw [List.getD_eq_getElem?_getD, h1]; rfl
  have e2 : L.getD 2 undef = u := by rw [List.getD_eq_getElem?_getD, h2]; rfl
  have e3 : L.getD 3 undef = .pointer (some ⟨N, 0, none⟩) := by rw [List.getD_eq_getElem?_getD, h3]; rfl
  have e4 : L.getD 4 undef = .pointer (some ⟨N + 1, 0, none⟩) := by rw [List.getD_eq_getElem?_getD, h4]; rfl
  have e5 : L.getD 5 undef = q5 := by rw [List.getD_eq_getElem?_getD, h5]; rfl
  have e7 : L.getD 7 undef = q7 := by rw [List.getD_eq_getElem?_getD, h7]; rfl
  have e8 : L.getD 8 undef = .pointer (some ⟨b, 0, none⟩) := by rw [List.getD_eq_getElem?_getD, h8]; rfl
  have e10 : L.getD 10 undef = q10 := by rw [List.getD_eq_getElem?_getD, h10]; rfl
  have e11 : L.getD 11 undef = q11 := by rw [List.getD_eq_getElem?_getD, h11]; rfl
  have e12 : L.getD 12 undef = q12 := by rw [List.getD_eq_getElem?_getD, h12]; rfl
  have e13 : L.getD 13 undef = q13 := by rw [List.getD_eq_getElem?_getD, h13]; rfl
  have e14 : L.getD 14 undef = .slice (some ⟨g, 0, none⟩) 2 2 := by rw [List.getD_eq_getElem?_getD, h14]; rfl
  have e15 : L.getD 15 undef = .int .i64 2 := by rw [List.getD_eq_getElem?_getD, h15]; rfl
  have e16 : L.getD 16 undef = .int .i64 k := by rw [List.getD_eq_getElem?_getD, h16]; rfl
  have e40 : L.getD 40 undef = .bool d := by rw [List.getD_eq_getElem?_getD, h40]; rfl
  have e42 : L.getD 42 undef = q42 := by rw [List.getD_eq_getElem?_getD, h42]; rfl
  have e43 : L.getD 43 undef = q43 := by rw [List.getD_eq_getElem?_getD, h43]; rfl
  have e44 : L.getD 44 undef = q44 := by rw [List.getD_eq_getElem?_getD, h44]; rfl
  rw [← e0, ← e1, ← e2, ← e3, ← e4, ← e5, ← e7, ← e8, ← e10, ← e11, ← e12, ← e13, ← e14, ← e15, ← e16, ← e40, ← e42, ← e43, ← e44]
  exact e
theorem fr150d_act (N : Nat) (q0 q1 u q5 q7 q10 q11 q12 q13 q42 q43 q44 : Value) (g b k : Nat) (d : Bool) (A : Act) (ds : List Deferred) (hds : A.defers = ds) (hL : A.tmps.size = 45) (h0 : A.tmps[0]? = some (q0)) (h1 : A.tmps[1]? = some (q1)) (h2 : A.tmps[2]? = some (u)) (h3 : A.tmps[3]? = some (.pointer (some ⟨N, 0, none⟩))) (h4 : A.tmps[4]? = some (.pointer (some ⟨N + 1, 0, none⟩))) (h5 : A.tmps[5]? = some (q5)) (h7 : A.tmps[7]? = some (q7)) (h8 : A.tmps[8]? = some (.pointer (some ⟨b, 0, none⟩))) (h10 : A.tmps[10]? = some (q10)) (h11 : A.tmps[11]? = some (q11)) (h12 : A.tmps[12]? = some (q12)) (h13 : A.tmps[13]? = some (q13)) (h14 : A.tmps[14]? = some (.slice (some ⟨g, 0, none⟩) 2 2)) (h15 : A.tmps[15]? = some (.int .i64 2)) (h16 : A.tmps[16]? = some (.int .i64 k)) (h40 : A.tmps[40]? = some (.bool d)) (h42 : A.tmps[42]? = some (q42)) (h43 : A.tmps[43]? = some (q43)) (h44 : A.tmps[44]? = some (q44)) : ∃ z, A = { tmps := (fr150d N q0 q1 u q5 q7 q10 q11 q12 q13 q42 q43 q44 g b k d z).toArray, defers := ds } := by
  obtain ⟨z, e⟩ := fr150d_of N q0 q1 u q5 q7 q10 q11 q12 q13 q42 q43 q44 g b k d A.tmps.toList (by rw [Array.length_toList]; exact hL) (by rw [Array.getElem?_toList]; exact h0) (by rw [Array.getElem?_toList]; exact h1) (by rw [Array.getElem?_toList]; exact h2) (by rw [Array.getElem?_toList]; exact h3) (by rw [Array.getElem?_toList]; exact h4) (by rw [Array.getElem?_toList]; exact h5) (by rw [Array.getElem?_toList]; exact h7) (by rw [Array.getElem?_toList]; exact h8) (by rw [Array.getElem?_toList]; exact h10) (by rw [Array.getElem?_toList]; exact h11) (by rw [Array.getElem?_toList]; exact h12) (by rw [Array.getElem?_toList]; exact h13) (by rw [Array.getElem?_toList]; exact h14) (by rw [Array.getElem?_toList]; exact h15) (by rw [Array.getElem?_toList]; exact h16) (by rw [Array.getElem?_toList]; exact h40) (by rw [Array.getElem?_toList]; exact h42) (by rw [Array.getElem?_toList]; exact h43) (by rw [Array.getElem?_toList]; exact h44)
  exact ⟨z, by cases A; subst hds; dsimp only at e ⊢; rw [← e]⟩


noncomputable def rnd150 : Code := codeL (codeL (codeR (codeL (codeR (Tryz.f150.body.getD .skip)))))
noncomputable def x150 : Code := codeL (codeL (codeR (codeR rnd150)))
noncomputable def r9_150 : Code := codeL (codeR (codeR (codeR x150)))

set_option maxRecDepth 100000 in
set_option maxHeartbeats 1000000 in
theorem r9_150_walk (W : World) (N : Nat) (q0 q1 u q5 q7 q10 q11 q12 q13 q42 q43 q44 : Value) (g b k B : Nat) (a : Option Addr) (n c : Nat) (v2 : Value) (l : List Int) (z : Nat → Value) (hx : Box W b 186 [.slice a n c, v2]) (hn : l.length = n) (hs : Sl encI 1 W B (.slice a n c) l) (hB : B ≤ W.heap.size) (hl : n ≤ 1000000000) (d : Bool) (hd : dupB l = d) :
    r9_150.wp Tryz.prog (fun e A W' => e = .normal ∧ (∃ z', A = { tmps := (fr150d N q0 q1 u q5 q7 q10 q11 q12 q13 q42 q43 q44 g b k d z').toArray, defers := [] }) ∧ Below W.heap.size W W') { tmps := (fr150 N q0 q1 u q5 q7 q10 q11 q12 q13 q42 q43 q44 g b k z).toArray, defers := [] } W := by
  have k1 : ((cptN l : Int) != (n : Int)) = d := by rw [← hn, ← hd]; exact cptN_dup l
  have x0 := hx.cell 0
  have xz := hx.lt
  simp only [List.getElem?_cons_zero] at x0
  have HV : Hid (VlR (W.drew.alloc (.cells #[.slice a n c] 26)) W.drew.heap.size B (.slice a n c) l) := Lib.hid (by
    have hb : Below W.heap.size W (W.drew.alloc (.cells #[.slice a n c] 26)) := (Below.refl _ _).drew.alloc (Nat.le_refl _) _
    exact ⟨Box.new W.drew #[.slice a n c] 26, hs.below (hb.mono hB), Nat.le_trans hB hb.size⟩)
  have HSO : Hid (∀ q, VlR (W.drew.alloc (.cells #[.slice a n c] 26)) q B (.slice a n c) l → Calls Tryz.prog 134 #[.func (.func 154) #[] #[.pointer (some ⟨q, 0, none⟩)]] (W.drew.alloc (.cells #[.slice a n c] 26)) fun e w' => ∃ v', e = .returned v' ∧ Own encI 1 3 w' (W.drew.alloc (.cells #[.slice a n c] 26)).heap.size v' (sortI l) ∧ Below (W.drew.alloc (.cells #[.slice a n c] 26)).heap.size (W.drew.alloc (.cells #[.slice a n c] 26)) w') := Lib.hid (fun q h => sorted134 q B (.slice a n c) l _ h (by rw [hn]; exact hl))
  have HCO : Hid (∀ (base : Nat) (v' : Value) (w' : World), Own encI 1 3 w' base v' (sortI l) → base ≤ w'.heap.size → Calls Tryz.prog 133 #[v'] w' fun e w'' => ∃ a c, e = .returned (.slice a (cptN l) c) ∧ Below base w' w'') := Lib.hid (fun base v' w' h1 h2 => compact133 base v' l w' h1 h2 (by rw [hn]; exact hl))
  have HB0 : Hid (Below W.heap.size W (W.drew.alloc (.cells #[.slice a n c] 26))) := Lib.hid ((Below.refl _ _).drew.alloc (Nat.le_refl _) _)
  generalize cptN l = m at *
  clear hx hs hn hd
  simp only [r9_150, x150, rnd150, codeL, codeR, Tryz.f150, Option.getD, fr150]
  refine wp_region_noPanic ?_
  go_region_with (first
    | (go_at_call 135; refine (values135 _ _ _ _).mono ?_; rintro e w' ⟨rfl, rfl⟩)
    | (go_at_call 134; refine (HSO.out _ HV.out).mono ?_; rintro e w2 ⟨v', rfl, hown, hbel⟩; obtain ⟨a', c', rfl⟩ := hown.shape; have q3 := fun o => hbel.cell (p := ⟨b, o, none⟩) (by simp; omega); have q4 : b < w2.heap.size := Nat.lt_of_lt_of_le (by simp; omega) hbel.size; have HO2 := Lib.hid hown; have HB2 := Lib.hid hbel; clear hown hbel)
    | (go_at_call 133; refine (HCO.out _ _ _ HO2.out HB2.out.size).mono ?_; rintro e w3 ⟨a3, c3, rfl, hbel3⟩; have q5 := fun o => hbel3.cell (p := ⟨b, o, none⟩) (by simp; omega); have q6 : b < w3.heap.size := Nat.lt_of_lt_of_le q4 hbel3.size; have HB3 := Lib.hid hbel3; clear hbel3))
  all_goals refine NoPanic.normal ?_
  all_goals exact ⟨rfl, by apply fr150d_act <;> first | rfl | (simp [k1]; done), HB0.out.trans ((HB2.out.trans HB3.out).mono HB0.out.size)⟩
end Go.Proofs.YtahpdkkpnkhnhaaGreatDoor

/- Walks: checkEnds and checkBoth. -/
namespace Go.Proofs.YtahpdkkpnkhnhaaGreatDoor
open Go Go.Proofs Go.RowKit Go.Shelf

theorem wp_of_ex {P : Program} {c : Code} {Q : Exit → Act → World → Prop} {A : Act} {W : World} {F : (Nat → Value) → Act} (h : ∃ z, A = F z) (h2 : ∀ z, c.wp P Q (F z) W) : c.wp P Q A W := by
  obtain ⟨z, rfl⟩ := h; exact h2 z
/-- The error of one list of machines at which paths begin, or end. -/
def endE (p : Pl) (f : ByteArray → Bool) (l : List Int) : Int :=
  if l.any (fun x => !inN p.ms.length x) then 10 else if l.any (fun x => !f (kdA p x)) then 20 else if dupB l then 9 else 0
def endsE (p : Pl) (src snk : List Int) : Int :=
  if endE p bgB src ≠ 0 then endE p bgB src else if endE p enB snk ≠ 0 then endE p enB snk else if snk.any (fun x => src.contains x) then 9 else 0
def bothE (p : Pl) (src snk : List Int) : Int := if ckPlant p ≠ 0 then ckPlant p else endsE p src snk
/-- What the k-th round looks at. -/
structure EndK (w wr : World) (p : Pl) (src snk : List Int) (g k : Nat) (a : Option Addr) (n c gk : Nat) (lk : List Int) (f : ByteArray → Bool) : Prop where
  c0 : wr.cell? ⟨g, k * 2, none⟩ = some (.slice a n c)
  c1 : wr.cell? ⟨g, k * 2 + 1, none⟩ = some (.func (.func gk) #[] #[])
  gkc : gk = 80 ∨ gk = 81
  hf : ∀ s, (if gk = 80 then bgB s else enB s) = f s
  hn : lk.length = n
  hl : n ≤ 1000000000
  sl : Sl encI 1 w w.heap.size (.slice a n c) lk
  no : (∀ i, i < k → (if i = 0 then endE p bgB src else endE p enB snk) = 0) → endE p f lk ≠ 0 → endsE p src snk = endE p f lk
  go : (∀ i, i < k → (if i = 0 then endE p bgB src else endE p enB snk) = 0) → endE p f lk = 0 → ∀ i, i < k + 1 → (if i = 0 then endE p bgB src else endE p enB snk) = 0
theorem endK_of {w wr : World} {p : Pl} {src snk : List Int} {g k : Nat} {s t : Value} (hs : Sl encI 1 w w.heap.size s src) (ht : Sl encI 1 w w.heap.size t snk) (hx : Box wr g 186 [s, .func (.func 80) #[] #[], t, .func (.func 81) #[] #[]]) (hk : k < 2) :
    ∃ a n c gk lk f, EndK w wr p src snk g k a n c gk lk f := by
  obtain ⟨a, c, rfl, hl, hA⟩ := id hs
  obtain ⟨a', c', rfl, hl', hA'⟩ := id ht
  have h0 := hx.cell 0
  have h1 := hx.cell 1
  have h2 := hx.cell 2
  have h3 := hx.cell 3
  simp only [List.getElem?_cons_zero, List.getElem?_cons_succ] at h0 h1 h2 h3
  rcases (show k = 0 ∨ k = 1 by omega) with rfl | rfl
  · refine ⟨a, src.length, c, 80, src, bgB, h0, h1, .inl rfl, fun s => by rw [if_pos rfl], rfl, hl.1, hs, fun _ h => ?_, fun _ h i hi => ?_⟩
    · unfold endsE; rw [if_pos h]
    · rw [if_pos (by omega)]; exact h
  · refine ⟨a', snk.length, c', 81, snk, enB, h2, h3, .inr rfl, fun s => by rw [if_neg (by decide)], rfl, hl'.1, ht, fun h0 h => ?_, fun h0 h i hi => ?_⟩
    · have := h0 0 (by omega)
      rw [if_pos rfl] at this
      unfold endsE; rw [if_neg (by rw [this]; simp), if_pos h]
    · by_cases e : i = 0
      · subst e; exact h0 0 (by omega)
      · rw [if_neg e]; exact h

set_option maxRecDepth 100000 in
set_option maxHeartbeats 1000000 in
theorem checkEnds150 (w : World) (v1 v2 s t : Value) (p : Pl) (src snk : List Int) (hwd : WdR w) (hv : PlR w w.heap.size v1 v2 p) (hn64 : p.ms.length ≤ 64) (hs : Sl encI 1 w w.heap.size s src) (ht : Sl encI 1 w w.heap.size t snk) :
    Calls Tryz.prog 150 #[.agg #[v1, v2], s, t] w (Ret (.int .i64 (endsE p src snk)) w) := by
  obtain ⟨Q, hQ⟩ : ∃ Q, Ret (.int .i64 (endsE p src snk)) w = Q := ⟨_, rfl⟩
  rw [hQ]
  have HQ : Hid (∀ x w', Below w.heap.size w w' → x = endsE p src snk → Q (.returned (.int .i64 x)) w') := Lib.hid (fun x w' hb hx => by rw [← hQ, hx]; exact ⟨rfl, hb⟩)
  clear hQ
  have HWD := Lib.hid (fun (w1 : World) (hb : Below w.heap.size w w1) => hwd.later hb)
  have HEK := Lib.hid (fun (wr : World) (g k : Nat) (hx : Box wr g 186 [s, .func (.func 80) #[] #[], t, .func (.func 81) #[] #[]]) (hk : k < 2) => endK_of (p := p) hs ht hx hk)
  have HCT := Lib.hid (fun (w1 : World) (hb : Below w.heap.size w w1) (hq : Box w1 (w.heap.size + 1) 26 [s]) => containsF111 t snk 159 #[.pointer (some ⟨w.heap.size + 1, 0, none⟩)] (fun x => src.contains x) w1 (enters_of Tryz.func159 (by kernel_rfl) rfl) (ht.later hb) (fun w' x hb' _ => in159 s src x (w.heap.size + 1) w' (hq.later hb') (hs.later (hb.trans (hb'.mono hb.size)))))
  obtain ⟨⟨a1, n1, rfl, hl1, hA1⟩, ⟨a2, n2, rfl, hl2, hA2⟩⟩ := hv
  obtain ⟨sa, cs, rfl, _, _⟩ := id hs
  obtain ⟨ta, ct, rfl, _, _⟩ := id ht
  have HA1 := Lib.hid hA1
  clear hA1 hA2 hwd hs ht
  obtain ⟨n, hn⟩ : ∃ n, p.ms.length = n := ⟨_, rfl⟩
  obtain ⟨ns, hns⟩ : ∃ n, src.length = n := ⟨_, rfl⟩
  obtain ⟨nt, hnt⟩ : ∃ n, snk.length = n := ⟨_, rfl⟩
  obtain ⟨m, hm⟩ : ∃ n, p.arcs.length = n := ⟨_, rfl⟩
  rw [hm] at hl2
  rw [hns] at HEK HCT
  rw [hnt] at HEK HCT
  rw [hn] at hn64 hl1
  rw [hn, hm, hns, hnt]
  have HN := Lib.hid hn
  clear hn hns hnt hm
  obtain ⟨P9, hP9⟩ : ∃ q, r9_150 = q := ⟨_, rfl⟩
  have HP9 := Lib.hid hP9
  simp only [r9_150, x150, rnd150, codeL, codeR, Tryz.f150, Option.getD] at hP9
  have HP2 := Lib.hid hP9
  clear hP9
  have HB0 := Lib.hid ((((Below.refl w.heap.size w).alloc (Nat.le_refl _) (.cells #[.slice a1 n n1, .slice a2 m n2] 25)).alloc (by simp) (.cells #[.slice sa ns cs] 26)).alloc (by simp; omega) (.cells #[.slice sa ns cs, .func (.func 80) #[] #[], .slice ta nt ct, .func (.func 81) #[] #[]] 186))
  have HX0 := Lib.hid (((Box.new w #[.slice a1 n n1, .slice a2 m n2] 25).alloc (.cells #[.slice sa ns cs] 26)).alloc (.cells #[.slice sa ns cs, .func (.func 80) #[] #[], .slice ta nt ct, .func (.func 81) #[] #[]] 186))
  have HY0 : Hid (Box (((w.alloc (.cells #[.slice a1 n n1, .slice a2 m n2] 25)).alloc (.cells #[.slice sa ns cs] 26)).alloc (.cells #[.slice sa ns cs, .func (.func 80) #[] #[], .slice ta nt ct, .func (.func 81) #[] #[]] 186)) (w.heap.size + 1) 26 [.slice sa ns cs]) := Lib.hid (by
    have := (Box.new (w.alloc (.cells #[.slice a1 n n1, .slice a2 m n2] 25)) #[.slice sa ns cs] 26).alloc (.cells #[.slice sa ns cs, .func (.func 80) #[] #[], .slice ta nt ct, .func (.func 81) #[] #[]] 186)
    rwa [World.size_alloc] at this)
  have HZ0 : Hid (Box (((w.alloc (.cells #[.slice a1 n n1, .slice a2 m n2] 25)).alloc (.cells #[.slice sa ns cs] 26)).alloc (.cells #[.slice sa ns cs, .func (.func 80) #[] #[], .slice ta nt ct, .func (.func 81) #[] #[]] 186)) (w.heap.size + 1 + 1) 186 [.slice sa ns cs, .func (.func 80) #[] #[], .slice ta nt ct, .func (.func 81) #[] #[]]) := Lib.hid (by
    have := Box.new ((w.alloc (.cells #[.slice a1 n n1, .slice a2 m n2] 25)).alloc (.cells #[.slice sa ns cs] 26)) #[.slice sa ns cs, .func (.func 80) #[] #[], .slice ta nt ct, .func (.func 81) #[] #[]] 186
    rwa [World.size_alloc, World.size_alloc] at this)
  go_enter Tryz.func150, Tryz.ntmps150
  go_wp2_with fail
  go_loopw [16] (fun i wr => ∃ k : Nat, k ≤ 2 ∧ i = .int .i64 k ∧ Below w.heap.size w wr ∧ Box wr w.heap.size 25 [.slice a1 n n1, .slice a2 m n2] ∧ Box wr (w.heap.size + 1) 26 [.slice sa ns cs] ∧ Box wr (w.heap.size + 1 + 1) 186 [.slice sa ns cs, .func (.func 80) #[] #[], .slice ta nt ct, .func (.func 81) #[] #[]] ∧ (∀ i, i < k → (if i = 0 then endE p bgB src else endE p enB snk) = 0)) (fun i _ => 2 - (intOf i).toNat)
  case atStart => exact ⟨0, by omega, rfl, HB0.out, HX0.out, HY0.out, HZ0.out, fun i hi => by omega⟩
  case round =>
    clear HB0 HX0 HY0 HZ0
    obtain ⟨k, hk, rfl, hb, hx, hy, hz, hin⟩ := hrel
    have HB := Lib.hid hb
    have HX := Lib.hid hx
    have HY := Lib.hid hy
    have HZ := Lib.hid hz
    have HIN := Lib.hid hin
    clear hb hx hy hz hin
    by_cases hlt : k < 2
    rotate_left
    · obtain rfl : k = 2 := by omega
      have HF : Hid ((if snk.any (fun x => src.contains x) = true then (9 : Int) else 0) = endsE p src snk) := Lib.hid (by
        have h0 := HIN.out 0 (by omega)
        have h1 := HIN.out 1 (by omega)
        rw [if_pos rfl] at h0
        rw [if_neg (by simp)] at h1
        unfold endsE
        rw [if_neg (show ¬ endE p bgB src ≠ 0 by rw [h0]; simp), if_neg (show ¬ endE p enB snk ≠ 0 by rw [h1]; simp)])
      obtain ⟨R, hR⟩ : ∃ R, snk.any (fun x => src.contains x) = R := ⟨_, rfl⟩
      rw [hR] at HF HCT
      clear hR
      have HC := Lib.hid (HCT.out wr HB.out HY.out)
      clear HCT
      cases R with
      | true =>
        go_wp2_with (go_at_call 111; refine HC.out.mono ?_; rintro e w2 ⟨rfl, hb2⟩)
        exact HQ.out _ _ (HB.out.trans (hb2.mono HB.out.size)) HF.out
      | false =>
        go_wp2_with (go_at_call 111; refine HC.out.mono ?_; rintro e w2 ⟨rfl, hb2⟩)
        exact HQ.out _ _ (HB.out.trans (hb2.mono HB.out.size)) HF.out
    obtain ⟨a, nk, c, gk, lk, f, hek⟩ := HEK.out wr (w.heap.size + 1 + 1) k HZ.out hlt
    have c0 := hek.c0
    have c1 := hek.c1
    have zz := HZ.out.lt
    have x0 := HX.out.cell 0
    have x1 := HX.out.cell 1
    have xz := HX.out.lt
    simp only [List.getElem?_cons_zero, List.getElem?_cons_succ] at x0 x1
    have HK := Lib.hid hek
    have HUK := Lib.hid (fun (w1 : World) (hb : Below w.heap.size w w1) => unknown79 a1 n n1 (.slice a2 m n2) (.slice a nk c) lk w1 (hek.sl.later hb))
    have HCK := Lib.hid (fun (w1 : World) (hb : Below w.heap.size w w1) (hq1 : Box w1 wr.heap.size 186 [.slice a nk c, .func (.func gk) #[] #[]]) (hq2 : Box w1 w.heap.size 25 [.slice a1 n n1, .slice a2 m n2]) (hin : ∀ x ∈ lk, inN n x = true) =>
      containsF111 (.slice a nk c) lk 158 #[.pointer (some ⟨wr.heap.size, 0, none⟩), .pointer (some ⟨w.heap.size, 0, none⟩)] (fun x => !f (kdA p x)) w1 (enters_of Tryz.func158 (by kernel_rfl) rfl) (hek.sl.later hb) (fun w' x hb' hx => by
        obtain ⟨j, rfl, hj⟩ := inN_nat (hin x hx)
        have hjl : j < p.ms.length := by rw [HN.out]; exact hj
        obtain ⟨b1, off1, e, hbb, hat⟩ := HA1.out (by omega)
        subst e
        have hb2 : Below w.heap.size w w' := hb.trans (hb'.mono hb.size)
        have h := no158 gk hek.gkc (.slice a nk c) b1 off1 n n1 (.slice a2 m n2) p.ms[j].kind p.ms[j].time j wr.heap.size w.heap.size w' (HWD.out w' hb2) (hq1.later hb') (hq2.later hb') hj hn64 ((hat j hjl).below hb2 hbb) (Nat.lt_of_lt_of_le hbb hb2.size)
        rw [hek.hf] at h
        show Calls _ _ _ _ (Ret (.bool (!f (kdA p (j : Int)))) w')
        rw [kdA_nat hjl]
        exact h))
    have HAL := Lib.hid ((Below.refl wr.heap.size wr).alloc (Nat.le_refl _) (.cells #[.slice a nk c, .func (.func gk) #[] #[]] 186))
    have HBX := Lib.hid (Box.new wr #[.slice a nk c, .func (.func gk) #[] #[]] 186)
    have HNO := Lib.hid (fun e (h : endE p f lk = e) (h0 : e ≠ 0) => show e = endsE p src snk by rw [hek.no HIN.out (by rw [h]; exact h0), h])
    have HNL := Lib.hid hek.hl
    have HNN := Lib.hid hek.hn
    have HSL := Lib.hid hek.sl
    clear hek
    obtain ⟨q, hq⟩ : ∃ q, lk.any (fun x => !inN n x) = q := ⟨_, rfl⟩
    obtain ⟨q2, hq2⟩ : ∃ q, lk.any (fun x => !f (kdA p x)) = q := ⟨_, rfl⟩
    obtain ⟨d, hd⟩ : ∃ d, dupB lk = d := ⟨_, rfl⟩
    have hE : endE p f lk = if q then 10 else if q2 then 20 else if d then 9 else 0 := by unfold endE; rw [HN.out, hq, hq2, hd]
    have HE := Lib.hid hE
    have HIN2 := Lib.hid (fun h : q = false => unk_in (hq.trans h))
    have HUE : Hid (unkE n lk = if q then 10 else 0) := Lib.hid (by unfold unkE; rw [hq])
    rw [hq2] at HCK
    rw [HUE.out] at HUK
    have HD := Lib.hid hd
    clear hE hq hq2 hd HUE
    rw [HP2.out]
    cases q with
    | true =>
      go_wp2_with (go_at_call 79; refine (HUK.out _ (HB.out.trans (HAL.out.mono HB.out.size))).mono ?_; rintro e w2 ⟨rfl, hb2⟩)
      exact HQ.out _ _ (HB.out.trans ((HAL.out.trans (hb2.mono HAL.out.size)).mono HB.out.size)) (HNO.out _ HE.out (by simp))
    | false =>
      have HIN3 := Lib.hid (HIN2.out rfl)
      clear HIN2
      go_wp2_with (go_at_call 79; refine (HUK.out _ (HB.out.trans (HAL.out.mono HB.out.size))).mono ?_; rintro e w2 ⟨rfl, hb2⟩; have HB2 := Lib.hid (HAL.out.trans (hb2.mono HAL.out.size)); have HBX2 := Lib.hid (HBX.out.later hb2); have y0 := HBX2.out.cell 0; have yz := HBX2.out.lt; clear hb2; simp only [List.getElem?_cons_zero] at y0)
      cases q2 with
      | true =>
        go_wp2_with (go_at_call 111; refine (HCK.out w2 (HB.out.trans (HB2.out.mono HB.out.size)) HBX2.out (HX.out.later HB2.out) HIN3.out).mono ?_; rintro e w3 ⟨rfl, hb3⟩)
        exact HQ.out _ _ (HB.out.trans ((HB2.out.trans (hb3.mono HB2.out.size)).mono HB.out.size)) (HNO.out _ HE.out (by simp))
      | false =>
        go_wp2_with (go_at_call 111; refine (HCK.out w2 (HB.out.trans (HB2.out.mono HB.out.size)) HBX2.out (HX.out.later HB2.out) HIN3.out).mono ?_; rintro e w3 ⟨rfl, hb3⟩)
        rw [← HP9.out]
        have HB3 := Lib.hid (HB2.out.trans (hb3.mono HB2.out.size))
        have HW3 := Lib.hid (HB.out.trans (HB3.out.mono HB.out.size))
        refine wp_of_ex (F := fun z => { tmps := (fr150 w.heap.size (.agg #[.slice a1 n n1, .slice a2 m n2]) (.slice sa ns cs) (.slice ta nt ct) undef undef (.slice sa ns cs) (.agg #[.slice sa ns cs, .func (.func 80) #[] #[]]) (.slice ta nt ct) (.agg #[.slice ta nt ct, .func (.func 81) #[] #[]]) undef undef undef (w.heap.size + 1 + 1) wr.heap.size k z).toArray, defers := [] }) (by apply fr150_act <;> rfl) fun z => ?_
        refine wp_mono (r9_150_walk w3 w.heap.size (.agg #[.slice a1 n n1, .slice a2 m n2]) (.slice sa ns cs) (.slice ta nt ct) undef undef (.slice sa ns cs) (.agg #[.slice sa ns cs, .func (.func 80) #[] #[]]) (.slice ta nt ct) (.agg #[.slice ta nt ct, .func (.func 81) #[] #[]]) undef undef undef (w.heap.size + 1 + 1) wr.heap.size k w.heap.size a nk c (.func (.func gk) #[] #[]) lk z (HBX2.out.later hb3) HNN.out (HSL.out.below HW3.out) HW3.out.size HNL.out d HD.out) ?_
        rintro e A w4 ⟨rfl, ⟨z', rfl⟩, hb4⟩
        have HW4 := Lib.hid (HW3.out.trans (hb4.mono HW3.out.size))
        have HB4 := Lib.hid (HB3.out.trans (hb4.mono HB3.out.size))
        clear hb3 hb4 y0 yz x0 x1 xz c0 c1 zz
        simp only [fr150d]
        cases d with
        | true =>
          go_wp2_with fail
          exact HQ.out _ _ HW4.out (HNO.out _ HE.out (by simp))
        | false =>
          go_wp2_with fail
          go_roundw
          case rel =>
            refine ⟨_, _, _, _, _, _, _, _, _, _, _, _, _, _, _, _, _, _, _, _, _, _, _, _, _, _, _, _, _, ?_, rfl⟩
            exact ⟨k + 1, by omega, by go_num, HW4.out, HX.out.later HB4.out, HY.out.later HB4.out, HZ.out.later HB4.out, HK.out.go HIN.out HE.out⟩
          case measure => simp [intOf]; omega
def bothPost (w : World) (p : Pl) (src snk : List Int) : Ending → World → Prop := Ret (.int .i64 (bothE p src snk)) w
set_option maxRecDepth 100000 in
set_option maxHeartbeats 1000000 in
theorem checkBoth118 (w : World) (v1 v2 s t : Value) (p : Pl) (src snk : List Int) (hwd : WdR w) (hv : PlR w w.heap.size v1 v2 p) (hs : Sl encI 1 w w.heap.size s src) (ht : Sl encI 1 w w.heap.size t snk) :
    Calls Tryz.prog 118 #[.agg #[v1, v2], s, t] w (Ret (.int .i64 (bothE p src snk)) w) := by
  have HP := Lib.hid (fun (w1 : World) (hb : Below w.heap.size w w1) => ckPlant32 w1 _ _ p (hwd.later hb) (hv.later hb))
  have HE := Lib.hid (fun (w1 : World) (hb : Below w.heap.size w w1) (h : p.ms.length ≤ 64) => checkEnds150 w1 _ _ s t p src snk (hwd.later hb) (hv.later hb) h (hs.later hb) (ht.later hb))
  have HOK := Lib.hid (fun h : ckPlant p = 0 => (ckPlant_ok h).le)
  obtain ⟨a1, n1, a2, n2, rfl, rfl⟩ := hv.agg
  obtain ⟨sa, cs, rfl, _, _⟩ := id hs
  obtain ⟨ta, ct, rfl, _, _⟩ := id ht
  clear hwd hv hs ht
  have HB := Lib.hid ((Below.refl w.heap.size w).alloc (Nat.le_refl _) (.cells #[.slice a1 p.ms.length n1, .slice a2 p.arcs.length n2] 25))
  have HX := Lib.hid (Box.new w #[.slice a1 p.ms.length n1, .slice a2 p.arcs.length n2] 25)
  obtain ⟨V, hV⟩ : ∃ V, bothE p src snk = V := ⟨_, rfl⟩
  rw [hV]
  unfold bothE at hV
  have HV := Lib.hid hV
  clear hV
  obtain ⟨c, hc⟩ : ∃ c, ckPlant p = c := ⟨_, rfl⟩
  rw [hc] at HP HV HOK
  obtain ⟨n, hn⟩ : ∃ n, p.ms.length = n := ⟨_, rfl⟩
  obtain ⟨m, hm⟩ : ∃ n, p.arcs.length = n := ⟨_, rfl⟩
  obtain ⟨ns, hns⟩ : ∃ n, src.length = n := ⟨_, rfl⟩
  obtain ⟨nt, hnt⟩ : ∃ n, snk.length = n := ⟨_, rfl⟩
  rw [hn, hm] at HP HB HX
  rw [hn, hm, hns, hnt] at HE
  rw [hn] at HOK
  rw [hn, hm, hns, hnt]
  clear hn hm hns hnt hc
  go_enter Tryz.func118, Tryz.ntmps118
  by_cases h0 : c = 0
  · subst h0
    have HOK2 := Lib.hid (HOK.out rfl)
    have HV2 : Hid (endsE p src snk = V) := Lib.hid (by have := HV.out; rwa [if_neg (by simp)] at this)
    clear HOK HV
    go_wp2_with (first | (go_at_call 32; refine (HP.out _ HB.out).mono ?_; rintro e w2 ⟨rfl, hb2⟩; have HB2 := Lib.hid (HB.out.trans (hb2.mono HB.out.size)); have HX2 := Lib.hid (HX.out.later hb2); obtain ⟨x0, x1, xf, xz⟩ := HX2.out.v2; clear hb2) | (go_at_call 150; refine (HE.out _ HB2.out HOK2.out).mono ?_; rintro e w3 ⟨rfl, hb3⟩))
    go_ret
    exact ⟨by rw [HV2.out]; rfl, HB2.out.trans (hb3.mono HB2.out.size)⟩
  · have k0 : (c != 0) = true := bne_iff_ne.2 h0
    have HV2 : Hid (c = V) := Lib.hid (by have := HV.out; rwa [if_pos h0] at this)
    clear HOK HV h0
    go_wp2_with (go_at_call 32; refine (HP.out _ HB.out).mono ?_; rintro e w2 ⟨rfl, hb2⟩; have HB2 := Lib.hid (HB.out.trans (hb2.mono HB.out.size)); have HX2 := Lib.hid (HX.out.later hb2); obtain ⟨x0, x1, xf, xz⟩ := HX2.out.v2; clear hb2)
    go_ret
    exact ⟨by rw [HV2.out]; rfl, HB2.out⟩
end Go.Proofs.YtahpdkkpnkhnhaaGreatDoor
