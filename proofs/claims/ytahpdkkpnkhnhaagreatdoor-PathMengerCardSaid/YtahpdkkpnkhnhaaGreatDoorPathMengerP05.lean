/- Lemmas on the way to the law PathMenger (part 5): Ve -/
import Derived.Test.YtahpdkkpnkhnhaaGreatDoorPathMengerP04
import Derived.Test.YtahpdkkpnkhnhaaGreatDoorBA27
set_option linter.unusedVariables false
set_option linter.unusedSimpArgs false

/- Walks: Disjoint: the machine that the flow goes on to. -/
namespace Go.Proofs.YtahpdkkpnkhnhaaGreatDoor
open Go Go.Proofs Go.RowKit Go.Shelf
attribute [local go_sem] Oper.semAt_some
def fr61 (N qf : Nat) (vs vt vo vp : Value) (mb ns j : Nat) (z : Nat → Value) : List Value := [z 0, vs, vt, .pointer (some ⟨N, 0, none⟩), z 4, z 5, z 6, z 7, z 8, .pointer (some ⟨qf, 0, none⟩), z 10, vo, z 12, z 13, vp, .pointer (some ⟨mb, 0, none⟩), z 16, z 17, z 18, z 19, z 20, z 21, z 22, z 23, z 24, z 25, z 26, z 27, z 28, z 29, z 30, vs, .int .i64 ns, .int .i64 j, z 34, z 35, z 36, z 37, z 38, z 39, z 40, z 41, z 42, z 43, z 44, z 45, z 46, z 47, z 48, z 49, z 50, z 51, z 52, z 53, z 54, z 55, z 56, z 57, z 58, z 59, z 60, z 61, z 62, z 63, z 64, z 65, z 66, z 67, z 68, z 69, z 70, z 71, z 72, z 73, z 74, z 75, z 76, z 77, z 78, z 79, z 80, z 81]
theorem fr61_of (N qf : Nat) (vs vt vo vp : Value) (mb ns j : Nat) (L : List Value) (hL : L.length = 82) (h1 : L[1]? = some (vs)) (h2 : L[2]? = some (vt)) (h3 : L[3]? = some (.pointer (some ⟨N, 0, none⟩))) (h9 : L[9]? = some (.pointer (some ⟨qf, 0, none⟩))) (h11 : L[11]? = some (vo)) (h14 : L[14]? = some (vp)) (h15 : L[15]? = some (.pointer (some ⟨mb, 0, none⟩))) (h31 : L[31]? = some (vs)) (h32 : L[32]? = some (.int .i64 ns)) (h33 : L[33]? = some (.int .i64 j)) : ∃ z, L = fr61 N qf vs vt vo vp mb ns j z := by
  refine ⟨fun i => L.getD i undef, ?_⟩
  unfold fr61
  have e := list_range L 82 hL
  have e1 : L.getD 1 undef = vs := by rw [List.getD_eq_getElem?_getD, h1]; rfl
  have e2 : L.getD 2 undef = vt := by rw [List.getD_eq_getElem?_getD, h2]; rfl
  have e3 : L.getD 3 undef = .pointer (some ⟨N, 0, none⟩) := by rw [List.getD_eq_getElem?_getD, h3]; rfl
  have e9 : L.getD 9 undef = .pointer (some ⟨qf, 0, none⟩) := by rw [List.getD_eq_getElem?_getD, h9]; rfl
  have e11 : L.getD 11 undef = vo := by rw [List.getD_eq_getElem?_getD, h11]; rfl
  have e14 : L.getD 14 undef = vp := by rw [List.getD_eq_getElem?_getD, h14]; rfl
  have e15 : L.getD 15 undef = .pointer (some ⟨mb, 0, none⟩) := by rw [List.getD_eq_getElem?_getD, h15]; rfl
  have e31 : L.getD 31 undef = vs := by rw [List.getD_eq_getElem?_getD, h31]; rfl
  have e32 : L.getD 32 undef = .int .i64 ns := by rw [List.getD_eq_getElem?_getD, h32]; rfl
  have e33 : L.getD 33 undef = .int .i64 j := by rw [List.getD_eq_getElem?_getD, h33]; rfl
  have e' : L = L.getD 0 undef :: L.getD 1 undef :: L.getD 2 undef :: L.getD 3 undef :: L.getD 4 undef :: L.getD 5 undef :: L.getD 6 undef :: L.getD 7 undef :: L.getD 8 undef :: L.getD 9 undef :: L.getD 10 undef :: L.getD 11 undef :: L.getD 12 undef :: L.getD 13 undef :: L.getD 14 undef :: L.getD 15 undef :: L.getD 16 undef :: L.getD 17 undef :: L.getD 18 undef :: L.getD 19 undef :: L.getD 20 undef :: L.getD 21 undef :: L.getD 22 undef :: L.getD 23 undef :: L.getD 24 undef :: L.getD 25 undef :: L.getD 26 undef :: L.getD 27 undef :: L.getD 28 undef :: L.getD 29 undef :: L.getD 30 undef :: L.getD 31 undef :: L.getD 32 undef :: L.getD 33 undef :: L.getD 34 undef :: L.getD 35 undef :: L.getD 36 undef :: L.getD 37 undef :: L.getD 38 undef :: L.getD 39 undef :: L.getD 40 undef :: L.getD 41 undef :: L.getD 42 undef :: L.getD 43 undef :: L.getD 44 undef :: L.getD 45 undef :: L.getD 46 undef :: L.getD 47 undef :: L.getD 48 undef :: L.getD 49 undef :: L.getD 50 undef :: L.getD 51 undef :: L.getD 52 undef :: L.getD 53 undef :: L.getD 54 undef :: L.getD 55 undef :: L.getD 56 undef :: L.getD 57 undef :: L.getD 58 undef :: L.getD 59 undef :: L.getD 60 undef :: L.getD 61 undef :: L.getD 62 undef :: L.getD 63 undef :: L.getD 64 undef :: L.getD 65 undef :: L.getD 66 undef :: L.getD 67 undef :: L.getD 68 undef :: L.getD 69 undef :: L.getD 70 undef :: L.getD 71 undef :: L.getD 72 undef :: L.getD 73 undef :: L.getD 74 undef :: L.getD 75 undef :: L.getD 76 undef :: L.getD 77 undef :: L.getD 78 undef :: L.getD 79 undef :: L.getD 80 undef :: L.getD 81 undef :: [] := e
  rw [e1, e2, e3, e9, e11, e14, e15, e31, e32, e33] at e'
  exact e'
theorem fr61_act (N qf : Nat) (vs vt vo vp : Value) (mb ns j : Nat) (A : Act) (ds : List Deferred) (hds : A.defers = ds) (hL : A.tmps.size = 82) (h1 : A.tmps[1]? = some (vs)) (h2 : A.tmps[2]? = some (vt)) (h3 : A.tmps[3]? = some (.pointer (some ⟨N, 0, none⟩))) (h9 : A.tmps[9]? = some (.pointer (some ⟨qf, 0, none⟩))) (h11 : A.tmps[11]? = some (vo)) (h14 : A.tmps[14]? = some (vp)) (h15 : A.tmps[15]? = some (.pointer (some ⟨mb, 0, none⟩))) (h31 : A.tmps[31]? = some (vs)) (h32 : A.tmps[32]? = some (.int .i64 ns)) (h33 : A.tmps[33]? = some (.int .i64 j)) : ∃ z, A = { tmps := (fr61 N qf vs vt vo vp mb ns j z).toArray, defers := ds } := by
  obtain ⟨z, e⟩ := fr61_of N qf vs vt vo vp mb ns j A.tmps.toList (by rw [Array.length_toList]; exact hL) (by rw [Array.getElem?_toList]; exact h1) (by rw [Array.getElem?_toList]; exact h2) (by rw [Array.getElem?_toList]; exact h3) (by rw [Array.getElem?_toList]; exact h9) (by rw [Array.getElem?_toList]; exact h11) (by rw [Array.getElem?_toList]; exact h14) (by rw [Array.getElem?_toList]; exact h15) (by rw [Array.getElem?_toList]; exact h31) (by rw [Array.getElem?_toList]; exact h32) (by rw [Array.getElem?_toList]; exact h33)
  exact ⟨z, by cases A; subst hds; dsimp only at e ⊢; rw [← e]⟩
def fr61n (N qf : Nat) (vs vt vo vp : Value) (mb ns j : Nat) (x : Int) (z : Nat → Value) : List Value := [z 0, vs, vt, .pointer (some ⟨N, 0, none⟩), z 4, z 5, z 6, z 7, z 8, .pointer (some ⟨qf, 0, none⟩), z 10, vo, z 12, z 13, vp, .pointer (some ⟨mb, 0, none⟩), z 16, z 17, z 18, z 19, z 20, z 21, z 22, z 23, z 24, z 25, z 26, z 27, z 28, z 29, z 30, vs, .int .i64 ns, .int .i64 j, z 34, z 35, z 36, z 37, z 38, z 39, z 40, z 41, z 42, z 43, z 44, z 45, z 46, z 47, z 48, z 49, z 50, z 51, z 52, z 53, z 54, z 55, z 56, z 57, .int .i64 x, z 59, z 60, z 61, z 62, z 63, z 64, z 65, z 66, z 67, z 68, z 69, z 70, z 71, z 72, z 73, z 74, z 75, z 76, z 77, z 78, z 79, z 80, z 81]
theorem fr61n_of (N qf : Nat) (vs vt vo vp : Value) (mb ns j : Nat) (x : Int) (L : List Value) (hL : L.length = 82) (h1 : L[1]? = some (vs)) (h2 : L[2]? = some (vt)) (h3 : L[3]? = some (.pointer (some ⟨N, 0, none⟩))) (h9 : L[9]? = some (.pointer (some ⟨qf, 0, none⟩))) (h11 : L[11]? = some (vo)) (h14 : L[14]? = some (vp)) (h15 : L[15]? = some (.pointer (some ⟨mb, 0, none⟩))) (h31 : L[31]? = some (vs)) (h32 : L[32]? = some (.int .i64 ns)) (h33 : L[33]? = some (.int .i64 j)) (h58 : L[58]? = some (.int .i64 x)) : ∃ z, L = fr61n N qf vs vt vo vp mb ns j x z := by
  refine ⟨fun i => L.getD i undef, ?_⟩
  unfold fr61n
  have e := list_range L 82 hL
  have e1 : L.getD 1 undef = vs := by rw [List.getD_eq_getElem?_getD, h1]; rfl
  have e2 : L.getD 2 undef = vt := by rw [List.getD_eq_getElem?_getD, h2]; rfl
  have e3 : L.getD 3 undef = .pointer (some ⟨N, 0, none⟩) := by rw [List.getD_eq_getElem?_getD, h3]; rfl
  have e9 : L.getD 9 undef = .pointer (some ⟨qf, 0, none⟩) := by rw [List.getD_eq_getElem?_getD, h9]; rfl
  have e11 : L.getD 11 undef = vo := by rw [List.getD_eq_getElem?_getD, h11]; rfl
  have e14 : L.getD 14 undef = vp := by rw [List.getD_eq_getElem?_getD, h14]; rfl
  have e15 : L.getD 15 undef = .pointer (some ⟨mb, 0, none⟩) := by rw [List.getD_eq_getElem?_getD, h15]; rfl
  have e31 : L.getD 31 undef = vs := by rw [List.getD_eq_getElem?_getD, h31]; rfl
  have e32 : L.getD 32 undef = .int .i64 ns := by rw [List.getD_eq_getElem?_getD, h32]; rfl
  have e33 : L.getD 33 undef = .int .i64 j := by rw [List.getD_eq_getElem?_getD, h33]; rfl
  have e58 : L.getD 58 undef = .int .i64 x := by rw [List.getD_eq_getElem?_getD, h58]; rfl
  have e' : L = L.getD 0 undef :: L.getD 1 undef :: L.getD 2 undef :: L.getD 3 undef :: L.getD 4 undef :: L.getD 5 undef :: L.getD 6 undef :: L.getD 7 undef :: L.getD 8 undef :: L.getD 9 undef :: L.getD 10 undef :: L.getD 11 undef :: L.getD 12 undef :: L.getD 13 undef :: L.getD 14 undef :: L.getD 15 undef :: L.getD 16 undef :: L.getD 17 undef :: L.getD 18 undef :: L.getD 19 undef :: L.getD 20 undef :: L.getD 21 undef :: L.getD 22 undef :: L.getD 23 undef :: L.getD 24 undef :: L.getD 25 undef :: L.getD 26 undef :: L.getD 27 undef :: L.getD 28 undef :: L.getD 29 undef :: L.getD 30 undef :: L.getD 31 undef :: L.getD 32 undef :: L.getD 33 undef :: L.getD 34 undef :: L.getD 35 undef :: L.getD 36 undef :: L.getD 37 undef :: L.getD 38 undef :: L.getD 39 undef :: L.getD 40 undef :: L.getD 41 undef :: L.getD 42 undef :: L.getD 43 undef :: L.getD 44 undef :: L.getD 45 undef :: L.getD 46 undef :: L.getD 47 undef :: L.getD 48 undef :: L.getD 49 undef :: L.getD 50 undef :: L.getD 51 undef :: L.getD 52 undef :: L.getD 53 undef :: L.getD 54 undef :: L.getD 55 undef :: L.getD 56 undef :: L.getD 57 undef :: L.getD 58 undef :: L.getD 59 undef :: L.getD 60 undef :: L.getD 61 undef :: L.getD 62 undef :: L.getD 63 undef :: L.getD 64 undef :: L.getD 65 undef :: L.getD 66 undef :: L.getD 67 undef :: L.getD 68 undef :: L.getD 69 undef :: L.getD 70 undef :: L.getD 71 undef :: L.getD 72 undef :: L.getD 73 undef :: L.getD 74 undef :: L.getD 75 undef :: L.getD 76 undef :: L.getD 77 undef :: L.getD 78 undef :: L.getD 79 undef :: L.getD 80 undef :: L.getD 81 undef :: [] := e
  rw [e1, e2, e3, e9, e11, e14, e15, e31, e32, e33, e58] at e'
  exact e'
def fr61x (N qf : Nat) (vs vt vo vp : Value) (mb ns j : Nat) (x : Int) (z : Nat → Value) : List Value := [z 0, vs, vt, .pointer (some ⟨N, 0, none⟩), z 4, z 5, z 6, z 7, z 8, .pointer (some ⟨qf, 0, none⟩), z 10, vo, z 12, z 13, vp, .pointer (some ⟨mb, 0, none⟩), .int .i64 x, z 17, z 18, z 19, z 20, z 21, z 22, z 23, z 24, z 25, z 26, z 27, z 28, z 29, z 30, vs, .int .i64 ns, .int .i64 j, z 34, z 35, z 36, z 37, z 38, z 39, z 40, z 41, z 42, z 43, z 44, z 45, z 46, z 47, z 48, z 49, z 50, z 51, z 52, z 53, z 54, z 55, z 56, z 57, z 58, z 59, z 60, z 61, z 62, z 63, z 64, z 65, z 66, z 67, z 68, z 69, z 70, z 71, z 72, z 73, z 74, z 75, z 76, z 77, z 78, z 79, z 80, z 81]
theorem fr61x_of (N qf : Nat) (vs vt vo vp : Value) (mb ns j : Nat) (x : Int) (L : List Value) (hL : L.length = 82) (h1 : L[1]? = some (vs)) (h2 : L[2]? = some (vt)) (h3 : L[3]? = some (.pointer (some ⟨N, 0, none⟩))) (h9 : L[9]? = some (.pointer (some ⟨qf, 0, none⟩))) (h11 : L[11]? = some (vo)) (h14 : L[14]? = some (vp)) (h15 : L[15]? = some (.pointer (some ⟨mb, 0, none⟩))) (h16 : L[16]? = some (.int .i64 x)) (h31 : L[31]? = some (vs)) (h32 : L[32]? = some (.int .i64 ns)) (h33 : L[33]? = some (.int .i64 j)) : ∃ z, L = fr61x N qf vs vt vo vp mb ns j x z := by
  refine ⟨fun i => L.getD i undef, ?_⟩
  unfold fr61x
  have e := list_range L 82 hL
  have e1 : L.getD 1 undef = vs := by rw [List.getD_eq_getElem?_getD, h1]; rfl
  have e2 : L.getD 2 undef = vt := by rw [List.getD_eq_getElem?_getD, h2]; rfl
  have e3 : L.getD 3 undef = .pointer (some ⟨N, 0, none⟩) := by rw [List.getD_eq_getElem?_getD, h3]; rfl
  have e9 : L.getD 9 undef = .pointer (some ⟨qf, 0, none⟩) := by rw [List.getD_eq_getElem?_getD, h9]; rfl
  have e11 : L.getD 11 undef = vo := by rw [List.getD_eq_getElem?_getD, h11]; rfl
  have e14 : L.getD 14 undef = vp := by rw [List.getD_eq_getElem?_getD, h14]; rfl
  have e15 : L.getD 15 undef = .pointer (some ⟨mb, 0, none⟩) := by rw [List.getD_eq_getElem?_getD, h15]; rfl
  have e16 : L.getD 16 undef = .int .i64 x := by rw [List.getD_eq_getElem?_getD, h16]; rfl
  have e31 : L.getD 31 undef = vs := by rw [List.getD_eq_getElem?_getD, h31]; rfl
  have e32 : L.getD 32 undef = .int .i64 ns := by rw [List.getD_eq_getElem?_getD, h32]; rfl
  have e33 : L.getD 33 undef = .int .i64 j := by rw [List.getD_eq_getElem?_getD, h33]; rfl
  have e' : L = L.getD 0 undef :: L.getD 1 undef :: L.getD 2 undef :: L.getD 3 undef :: L.getD 4 undef :: L.getD 5 undef :: L.getD 6 undef :: L.getD 7 undef :: L.getD 8 undef :: L.getD 9 undef :: L.getD 10 undef :: L.getD 11 undef :: L.getD 12 undef :: L.getD 13 undef :: L.getD 14 undef :: L.getD 15 undef :: L.getD 16 undef :: L.getD 17 undef :: L.getD 18 undef :: L.getD 19 undef :: L.getD 20 undef :: L.getD 21 undef :: L.getD 22 undef :: L.getD 23 undef :: L.getD 24 undef :: L.getD 25 undef :: L.getD 26 undef :: L.getD 27 undef :: L.getD 28 undef :: L.getD 29 undef :: L.getD 30 undef :: L.getD 31 undef :: L.getD 32 undef :: L.getD 33 undef :: L.getD 34 undef :: L.getD 35 undef :: L.getD 36 undef :: L.getD 37 undef :: L.getD 38 undef :: L.getD 39 undef :: L.getD 40 undef :: L.getD 41 undef :: L.getD 42 undef :: L.getD 43 undef :: L.getD 44 undef :: L.getD 45 undef :: L.getD 46 undef :: L.getD 47 undef :: L.getD 48 undef :: L.getD 49 undef :: L.getD 50 undef :: L.getD 51 undef :: L.getD 52 undef :: L.getD 53 undef :: L.getD 54 undef :: L.getD 55 undef :: L.getD 56 undef :: L.getD 57 undef :: L.getD 58 undef :: L.getD 59 undef :: L.getD 60 undef :: L.getD 61 undef :: L.getD 62 undef :: L.getD 63 undef :: L.getD 64 undef :: L.getD 65 undef :: L.getD 66 undef :: L.getD 67 undef :: L.getD 68 undef :: L.getD 69 undef :: L.getD 70 undef :: L.getD 71 undef :: L.getD 72 undef :: L.getD 73 undef :: L.getD 74 undef :: L.getD 75 undef :: L.getD 76 undef :: L.getD 77 undef :: L.getD 78 undef :: L.getD 79 undef :: L.getD 80 undef :: L.getD 81 undef :: [] := e
  rw [e1, e2, e3, e9, e11, e14, e15, e16, e31, e32, e33] at e'
  exact e'
theorem fr61x_act (N qf : Nat) (vs vt vo vp : Value) (mb ns j : Nat) (x : Int) (A : Act) (ds : List Deferred) (hds : A.defers = ds) (hL : A.tmps.size = 82) (h1 : A.tmps[1]? = some (vs)) (h2 : A.tmps[2]? = some (vt)) (h3 : A.tmps[3]? = some (.pointer (some ⟨N, 0, none⟩))) (h9 : A.tmps[9]? = some (.pointer (some ⟨qf, 0, none⟩))) (h11 : A.tmps[11]? = some (vo)) (h14 : A.tmps[14]? = some (vp)) (h15 : A.tmps[15]? = some (.pointer (some ⟨mb, 0, none⟩))) (h16 : A.tmps[16]? = some (.int .i64 x)) (h31 : A.tmps[31]? = some (vs)) (h32 : A.tmps[32]? = some (.int .i64 ns)) (h33 : A.tmps[33]? = some (.int .i64 j)) : ∃ z, A = { tmps := (fr61x N qf vs vt vo vp mb ns j x z).toArray, defers := ds } := by
  obtain ⟨z, e⟩ := fr61x_of N qf vs vt vo vp mb ns j x A.tmps.toList (by rw [Array.length_toList]; exact hL) (by rw [Array.getElem?_toList]; exact h1) (by rw [Array.getElem?_toList]; exact h2) (by rw [Array.getElem?_toList]; exact h3) (by rw [Array.getElem?_toList]; exact h9) (by rw [Array.getElem?_toList]; exact h11) (by rw [Array.getElem?_toList]; exact h14) (by rw [Array.getElem?_toList]; exact h15) (by rw [Array.getElem?_toList]; exact h16) (by rw [Array.getElem?_toList]; exact h31) (by rw [Array.getElem?_toList]; exact h32) (by rw [Array.getElem?_toList]; exact h33)
  exact ⟨z, by cases A; subst hds; dsimp only at e ⊢; rw [← e]⟩
def fr61y (N qf : Nat) (vs vt vo vp : Value) (mb ns j : Nat) (x : Int) (R : Bool) (z : Nat → Value) : List Value := [z 0, vs, vt, .pointer (some ⟨N, 0, none⟩), z 4, z 5, z 6, z 7, z 8, .pointer (some ⟨qf, 0, none⟩), z 10, vo, z 12, z 13, vp, .pointer (some ⟨mb, 0, none⟩), .int .i64 x, z 17, z 18, z 19, z 20, z 21, z 22, z 23, z 24, z 25, z 26, z 27, z 28, z 29, z 30, vs, .int .i64 ns, .int .i64 j, z 34, z 35, z 36, z 37, z 38, z 39, z 40, z 41, z 42, z 43, z 44, z 45, z 46, z 47, z 48, z 49, z 50, z 51, z 52, z 53, z 54, z 55, z 56, z 57, z 58, z 59, z 60, z 61, z 62, z 63, z 64, z 65, z 66, z 67, z 68, .bool R, z 70, z 71, z 72, z 73, z 74, z 75, z 76, z 77, z 78, z 79, z 80, z 81]
theorem fr61y_of (N qf : Nat) (vs vt vo vp : Value) (mb ns j : Nat) (x : Int) (R : Bool) (L : List Value) (hL : L.length = 82) (h1 : L[1]? = some (vs)) (h2 : L[2]? = some (vt)) (h3 : L[3]? = some (.pointer (some ⟨N, 0, none⟩))) (h9 : L[9]? = some (.pointer (some ⟨qf, 0, none⟩))) (h11 : L[11]? = some (vo)) (h14 : L[14]? = some (vp)) (h15 : L[15]? = some (.pointer (some ⟨mb, 0, none⟩))) (h16 : L[16]? = some (.int .i64 x)) (h31 : L[31]? = some (vs)) (h32 : L[32]? = some (.int .i64 ns)) (h33 : L[33]? = some (.int .i64 j)) (h69 : L[69]? = some (.bool R)) : ∃ z, L = fr61y N qf vs vt vo vp mb ns j x R z := by
  refine ⟨fun i => L.getD i undef, ?_⟩
  unfold fr61y
  have e := list_range L 82 hL
  have e1 : L.getD 1 undef = vs := by rw [List.getD_eq_getElem?_getD, h1]; rfl
  have e2 : L.getD 2 undef = vt := by rw [List.getD_eq_getElem?_getD, h2]; rfl
  have e3 : L.getD 3 undef = .pointer (some ⟨N, 0, none⟩) := by rw [List.getD_eq_getElem?_getD, h3]; rfl
  have e9 : L.getD 9 undef = .pointer (some ⟨qf, 0, none⟩) := by rw [List.getD_eq_getElem?_getD, h9]; rfl
  have e11 : L.getD 11 undef = vo := by rw [List.getD_eq_getElem?_getD, h11]; rfl
  have e14 : L.getD 14 undef = vp := by rw [List.getD_eq_getElem?_getD, h14]; rfl
  have e15 : L.getD 15 undef = .pointer (some ⟨mb, 0, none⟩) := by rw [List.getD_eq_getElem?_getD, h15]; rfl
  have e16 : L.getD 16 undef = .int .i64 x := by rw [List.getD_eq_getElem?_getD, h16]; rfl
  have e31 : L.getD 31 undef = vs := by rw [List.getD_eq_getElem?_getD, h31]; rfl
  have e32 : L.getD 32 undef = .int .i64 ns := by rw [List.getD_eq_getElem?_getD, h32]; rfl
  have e33 : L.getD 33 undef = .int .i64 j := by rw [List.getD_eq_getElem?_getD, h33]; rfl
  have e69 : L.getD 69 undef = .bool R := by rw [List.getD_eq_getElem?_getD, h69]; rfl
  have e' : L = L.getD 0 undef :: L.getD 1 undef :: L.getD 2 undef :: L.getD 3 undef :: L.getD 4 undef :: L.getD 5 undef :: L.getD 6 undef :: L.getD 7 undef :: L.getD 8 undef :: L.getD 9 undef :: L.getD 10 undef :: L.getD 11 undef :: L.getD 12 undef :: L.getD 13 undef :: L.getD 14 undef :: L.getD 15 undef :: L.getD 16 undef :: L.getD 17 undef :: L.getD 18 undef :: L.getD 19 undef :: L.getD 20 undef :: L.getD 21 undef :: L.getD 22 undef :: L.getD 23 undef :: L.getD 24 undef :: L.getD 25 undef :: L.getD 26 undef :: L.getD 27 undef :: L.getD 28 undef :: L.getD 29 undef :: L.getD 30 undef :: L.getD 31 undef :: L.getD 32 undef :: L.getD 33 undef :: L.getD 34 undef :: L.getD 35 undef :: L.getD 36 undef :: L.getD 37 undef :: L.getD 38 undef :: L.getD 39 undef :: L.getD 40 undef :: L.getD 41 undef :: L.getD 42 undef :: L.getD 43 undef :: L.getD 44 undef :: L.getD 45 undef :: L.getD 46 undef :: L.getD 47 undef :: L.getD 48 undef :: L.getD 49 undef :: L.getD 50 undef :: L.getD 51 undef :: L.getD 52 undef :: L.getD 53 undef :: L.getD 54 undef :: L.getD 55 undef :: L.getD 56 undef :: L.getD 57 undef :: L.getD 58 undef :: L.getD 59 undef :: L.getD 60 undef :: L.getD 61 undef :: L.getD 62 undef :: L.getD 63 undef :: L.getD 64 undef :: L.getD 65 undef :: L.getD 66 undef :: L.getD 67 undef :: L.getD 68 undef :: L.getD 69 undef :: L.getD 70 undef :: L.getD 71 undef :: L.getD 72 undef :: L.getD 73 undef :: L.getD 74 undef :: L.getD 75 undef :: L.getD 76 undef :: L.getD 77 undef :: L.getD 78 undef :: L.getD 79 undef :: L.getD 80 undef :: L.getD 81 undef :: [] := e
  rw [e1, e2, e3, e9, e11, e14, e15, e16, e31, e32, e33, e69] at e'
  exact e'
theorem fr61y_act (N qf : Nat) (vs vt vo vp : Value) (mb ns j : Nat) (x : Int) (R : Bool) (A : Act) (ds : List Deferred) (hds : A.defers = ds) (hL : A.tmps.size = 82) (h1 : A.tmps[1]? = some (vs)) (h2 : A.tmps[2]? = some (vt)) (h3 : A.tmps[3]? = some (.pointer (some ⟨N, 0, none⟩))) (h9 : A.tmps[9]? = some (.pointer (some ⟨qf, 0, none⟩))) (h11 : A.tmps[11]? = some (vo)) (h14 : A.tmps[14]? = some (vp)) (h15 : A.tmps[15]? = some (.pointer (some ⟨mb, 0, none⟩))) (h16 : A.tmps[16]? = some (.int .i64 x)) (h31 : A.tmps[31]? = some (vs)) (h32 : A.tmps[32]? = some (.int .i64 ns)) (h33 : A.tmps[33]? = some (.int .i64 j)) (h69 : A.tmps[69]? = some (.bool R)) : ∃ z, A = { tmps := (fr61y N qf vs vt vo vp mb ns j x R z).toArray, defers := ds } := by
  obtain ⟨z, e⟩ := fr61y_of N qf vs vt vo vp mb ns j x R A.tmps.toList (by rw [Array.length_toList]; exact hL) (by rw [Array.getElem?_toList]; exact h1) (by rw [Array.getElem?_toList]; exact h2) (by rw [Array.getElem?_toList]; exact h3) (by rw [Array.getElem?_toList]; exact h9) (by rw [Array.getElem?_toList]; exact h11) (by rw [Array.getElem?_toList]; exact h14) (by rw [Array.getElem?_toList]; exact h15) (by rw [Array.getElem?_toList]; exact h16) (by rw [Array.getElem?_toList]; exact h31) (by rw [Array.getElem?_toList]; exact h32) (by rw [Array.getElem?_toList]; exact h33) (by rw [Array.getElem?_toList]; exact h69)
  exact ⟨z, by cases A; subst hds; dsimp only at e ⊢; rw [← e]⟩
noncomputable def c61 : Code := Tryz.f61.body.getD .skip
noncomputable def body0_61 : Code := codeL (codeL (codeR (codeL (codeR (codeR (codeR (codeR c61)))))))
noncomputable def in1_61 : Code := codeL (codeL (codeR (codeR body0_61)))
noncomputable def blk2_61 : Code := codeR (codeL (codeR (codeR (codeR in1_61))))
noncomputable def body2_61 : Code := codeL (codeL blk2_61)
noncomputable def in3_61 : Code := codeL (codeL (codeR body2_61))
noncomputable def rng61 : Code := codeL (codeR (codeL in3_61))
noncomputable def asg61 : Code := codeL rng61
noncomputable def bdy61 : Code := codeR rng61
theorem rng61_eq : rng61 = .rangeFunc (.tmp 57) #[58] asg61 bdy61 := rfl
noncomputable def r15_61 : Code := codeL (codeL bdy61)
noncomputable def if15_61 : Code := codeR (codeL bdy61)
theorem bdy61_eq : bdy61 = .block 5 (.seq r15_61 if15_61) := rfl
set_option maxRecDepth 100000 in
set_option maxHeartbeats 1000000 in
theorem r15_61_walk (lp n' N qf fb Nn : Nat) (vs vt vo vp : Value) (mb ns j x m : Nat) (rm : List Int) (W : World) (hl : rm.length = 16900) (hx : x < 64) (hm : m < 64) (hf : Box W qf 143 [.pointer (some ⟨fb, 0, none⟩)]) (hr : Box W fb 150 (roomV rm Nn)) (hmx : Box W mb 3 [.int .i64 m])
    (ds : List Deferred) (z : Nat → Value) (Q : Exit → Act → World → Prop)
    (hQ : ∀ z' k, Q .normal { tmps := (fr61y N qf vs vt vo vp mb ns j x (decide (0 < matR rm (2 * x) (2 * m + 1))) z').toArray, defers := ds } (W.drewN k)) :
    r15_61.wpIn (Fence.wide.inRound lp) n' Tryz.prog Q { tmps := (fr61x N qf vs vt vo vp mb ns j x z).toArray, defers := ds } W := by
  have HQ : Hid (∀ A k, (∃ z', A = { tmps := (fr61y N qf vs vt vo vp mb ns j x (decide (0 < matR rm (2 * x) (2 * m + 1))) z').toArray, defers := ds }) → Q .normal A (W.drewN k)) := Lib.hid (by rintro A k ⟨z', rfl⟩; exact hQ z' k)
  have f0 := hf.cell 0
  have fz := hf.lt
  have m0 := hmx.cell 0
  have mz := hmx.lt
  have r0 := (hr.cell ((2 * x) * 130 + (2 * m + 1))).trans (roomV_get Nn hl (by omega) (by omega))
  have rz := hr.lt
  simp only [List.getElem?_cons_zero] at f0 m0
  obtain ⟨j0, hj0⟩ : ∃ j, 2 * x = j := ⟨_, rfl⟩
  obtain ⟨j1, hj1⟩ : ∃ j, 2 * m + 1 = j := ⟨_, rfl⟩
  have K21 := Lib.hid (fun W' => entry121 (x : Int) W' (by omega))
  have K20 := Lib.hid (fun W' => exit120 (m : Int) W' (by omega))
  rw [show (2 * (x : Int)) = (j0 : Int) by omega] at K21
  rw [show (2 * (m : Int) + 1) = (j1 : Int) by omega] at K20
  rw [hj0, hj1] at HQ r0
  have hjn0 : (j0 : Int) < 130 := by omega
  have hjn1 : (j1 : Int) < 130 := by omega
  have hjm0 : j0 < 130 := by omega
  have hjm1 : j1 < 130 := by omega
  clear hQ hf hr hmx hj0 hj1
  generalize matR rm j0 j1 = y at *
  simp only [r15_61, bdy61, rng61, in3_61, body2_61, blk2_61, in1_61, body0_61, c61, Tryz.f61, Option.getD, codeL, codeR, fr61x]
  have hmx : Tryz.prog.follows .mixedOrders = true := by kernel_rfl
  refine wpIn_region_quiet_litR (by kernel_rfl) (by kernel_rfl) (by kernel_rfl) ?_
  repeat (gi_big_quiet_step (fail))
  refine BigFrame.wpQuietIn_want (fun _ _ _ _ => trivial) rfl ?_
  intro K hK
  gi_big_quiet_op
  apply Exists.intro
  refine ⟨fun nx => ⟨(fun h => by cases h), (CallsIn.inRound lp (callsIn_wide.2 (K21.out _))).mono ?_⟩, ?_⟩
  · rintro e wx ⟨rfl, rfl⟩
    exact ⟨rfl, nx, rfl⟩
  go_big_quiet_on
  repeat (gi_big_quiet_step (fail))
  refine BigFrame.wpQuietIn_want (fun _ _ _ _ => trivial) rfl ?_
  intro K hK
  gi_big_quiet_op
  apply Exists.intro
  refine ⟨fun nx => ⟨(fun h => by cases h), (CallsIn.inRound lp (callsIn_wide.2 (K20.out _))).mono ?_⟩, ?_⟩
  · rintro e wx ⟨rfl, rfl⟩
    exact ⟨rfl, nx, rfl⟩
  go_big_quiet_on
  repeat (gi_big_quiet_step (fail))
  refine wpQuietIn_nil ?_
  intro _ hw'
  obtain ⟨nq, hw''⟩ := hw'
  subst hw''
  refine HQ.out _ _ ?_
  apply fr61y_act <;> rfl
set_option maxRecDepth 100000 in
set_option maxHeartbeats 400000 in
theorem if15_no (lp n' N qf : Nat) (vs vt vo vp : Value) (mb ns j : Nat) (x : Int) (W : World) (ds : List Deferred) (z : Nat → Value) (Q : Exit → Act → World → Prop) (hQ : ∀ A, Q .normal A W) :
    if15_61.wpIn (Fence.wide.inRound lp) n' Tryz.prog Q { tmps := (fr61y N qf vs vt vo vp mb ns j x false z).toArray, defers := ds } W := by
  have HQ := Lib.hid hQ
  clear hQ
  simp only [if15_61, bdy61, rng61, in3_61, body2_61, blk2_61, in1_61, body0_61, c61, Tryz.f61, Option.getD, codeL, codeR, fr61y]
  gi_wp2
  exact HQ.out _
set_option maxRecDepth 100000 in
set_option maxHeartbeats 400000 in
theorem if15_yes (lp n' N qf : Nat) (vs vt vo vp : Value) (mb ns j : Nat) (x : Int) (c0 : Value) (W : World) (hr : Box W mb 3 [c0]) (ds : List Deferred) (z : Nat → Value) (Q : Exit → Act → World → Prop) (hQ : ∀ A, Q (.exit 4) A (W.setCell ⟨mb, 0, none⟩ (.int .i64 x))) :
    if15_61.wpIn (Fence.wide.inRound lp) n' Tryz.prog Q { tmps := (fr61y N qf vs vt vo vp mb ns j x true z).toArray, defers := ds } W := by
  have HQ := Lib.hid hQ
  have r0 := hr.cell 0
  have rz := hr.lt
  have rf := hr.frozen
  simp only [List.getElem?_cons_zero] at r0
  clear hQ hr
  simp only [if15_61, bdy61, rng61, in3_61, body2_61, blk2_61, in1_61, body0_61, c61, Tryz.f61, Option.getD, codeL, codeR, fr61y]
  gi_wp2
  exact HQ.out _
set_option maxRecDepth 100000 in
set_option maxHeartbeats 400000 in
theorem asg61_walk (lp n' N qf : Nat) (vs vt vo vp : Value) (mb ns j : Nat) (x : Int) (W : World) (z : Nat → Value) (K : Act → World → Prop)
    (hK : ∀ z', K { tmps := (fr61x N qf vs vt vo vp mb ns j x z').toArray, defers := [] } W) :
    asg61.wpIn (Fence.wide.inRound lp) n' Tryz.prog (Exit.then K (fun _ _ _ => False)) { tmps := (fr61n N qf vs vt vo vp mb ns j x z).toArray, defers := [] } W := by
  have HX : Hid (∀ A, (∃ z', A = { tmps := (fr61x N qf vs vt vo vp mb ns j x z').toArray, defers := [] }) → K A W) := Lib.hid (by
    rintro A ⟨z', rfl⟩; exact hK z')
  clear hK
  simp only [asg61, rng61, in3_61, body2_61, blk2_61, in1_61, body0_61, c61, Tryz.f61, Option.getD, codeL, codeR, fr61n]
  gi_wp2
  refine HX.out _ ?_
  apply fr61x_act <;> rfl
def InD (w W0 : World) (mb q : Nat) (v1 v2 : Value) (p : Pl) (m : Nat) (rm : List Int) (Ds : List Nat) (pre : List (Nxt p m)) (W : World) : Prop :=
  Box W mb 3 [.int .i64 m] ∧ NxR W q w.heap.size v1 v2 p m ∧ Kept (fun k => k = mb) W0 W ∧ (∀ x ∈ pre, matR rm (2 * x.1.toNat) (2 * m + 1) ≤ 0) ∧ MarksIn W Ds
def OutD (W0 : World) (mb : Nat) (p : Pl) (m : Nat) (rm : List Int) (Ds : List Nat) (c : Code) (_pre : List (Nxt p m)) (W : World) : Prop :=
  c = .exit 4 ∧ ∃ x : Int, (⟨(m : Int), x⟩ : Ar) ∈ p.arcs ∧ 0 < matR rm (2 * x.toNat) (2 * m + 1) ∧ Box W mb 3 [.int .i64 x] ∧ Kept (fun k => k = mb) W0 W ∧ MarksIn W Ds
section
variable {w W0 : World} {mb q : Nat} {v1 v2 : Value} {p : Pl} {m : Nat} {rm : List Int} {Ds : List Nat} {B : Nat}
theorem marks_own {W W' : World} {row : Option Nat} (h : MarksIn W Ds) (hB : ∀ D ∈ Ds, D < B) (hg : W.grownBy W' row) (hr : ∀ k, row = some k → B ≤ k) : MarksIn W' Ds := fun D hD =>
  (hg.block D (Array.getElem?_eq_some_iff.1 (h D hD)).1 (fun e => by have h1 := hr D e.symm; have h2 := hB D hD; omega)).trans (h D hD)
theorem InD.own (hB : w.heap.size ≤ B) (hB0 : W0.heap.size ≤ B) (hD : ∀ D ∈ Ds, D < B) : OwnFrom B (InD w W0 mb q v1 v2 p m rm Ds) := by
  rintro s W W' row ⟨h1, h2, h3, h4, h5⟩ hg hr
  have hn : NoCells W row := fun r e => (hr r e).2
  have hk : ∀ k, row = some k → w.heap.size ≤ k := fun k e => Nat.le_trans hB (hr k e).1
  exact ⟨h1.grown hg (hn.box h1), h2.grown hg hn hk, h3.grown hg (fun k e => .inr (Nat.le_trans hB0 (hr k e).1)), h4, marks_own h5 hD hg fun k e => (hr k e).1⟩
theorem OutD.own (hB0 : W0.heap.size ≤ B) (hD : ∀ D ∈ Ds, D < B) (c : Code) : OwnFrom B (OutD W0 mb p m rm Ds c) := by
  rintro s W W' row ⟨h0, x, h1, h2, h3, h4, h5⟩ hg hr
  have hn : NoCells W row := fun r e => (hr r e).2
  exact ⟨h0, x, h1, h2, h3.grown hg (hn.box h3), h4.grown hg (fun k e => .inr (Nat.le_trans hB0 (hr k e).1)), marks_own h5 hD hg fun k e => (hr k e).1⟩
end
set_option maxHeartbeats 1000000 in
theorem bdy61_walk (lp n' N qf fb Nn : Nat) (vs vt vo vp : Value) (mb ns j : Nat) (w W0 W : World) (q : Nat) (v1 v2 : Value) (p : Pl) (m : Nat) (rm : List Int) (Ds : List Nat) (pre : List (Nxt p m)) (x : Nxt p m) (z : Nat → Value) (B0 : Nat)
    (hl : rm.length = 16900) (hok : OkP p) (hm : m < 64) (hf : Box W0 qf 143 [.pointer (some ⟨fb, 0, none⟩)]) (hr : Box W0 fb 150 (roomV rm Nn)) (hq1 : qf ≠ mb) (hq2 : fb ≠ mb)
    (hin : InD w W0 mb q v1 v2 p m rm Ds pre W) :
    bdy61.wpIn (Fence.wide.inRound lp) n' Tryz.prog (ownPostG B0 (KpN q w.heap.size v1 v2 p m) (InD w W0 mb q v1 v2 p m rm Ds) (OutD W0 mb p m rm Ds) (pre ++ [x]) W)
      { tmps := (fr61x N qf vs vt vo vp mb ns j x.1 z).toArray, defers := [] } W := by
  obtain ⟨hmx, hnx, hkp, hno, hmk⟩ := hin
  obtain ⟨xi, hxa⟩ := x
  obtain ⟨h1, h2, h3, _, _⟩ := hok.ins _ hxa
  have hple := hok.le
  obtain ⟨xn, hxe, hxn⟩ := inN_nat h2
  have hxe : xi = (xn : Int) := hxe
  subst hxe
  dsimp only
  rw [bdy61_eq]
  refine wpIn_block (wpIn_seq ?_)
  refine r15_61_walk lp n' N qf fb Nn vs vt vo vp mb ns j xn m rm W hl (by omega) hm (hf.keeps hkp hq1) (hr.keeps hkp hq2) hmx [] z _ fun z' k => ?_
  simp only [Exit.then]
  have hb : Below W.heap.size W (W.drewN k) := below_drewN (Below.refl _ _) k
  have hko : KeepsOthers W (W.drewN k) := ⟨hb.size, fun i o hi _ => (hb.block i (Array.getElem?_eq_some_iff.1 hi).1).trans hi⟩
  by_cases hp : 0 < matR rm (2 * xn) (2 * m + 1)
  · rw [decide_eq_true hp]
    refine if15_yes lp n' N qf vs vt vo vp mb ns j xn _ _ (hmx.later hb) [] z' _ fun A => ?_
    simp only [Exit.inBlock]
    exact ⟨(hko.trans (KeepsOthers.setCell _ _ _)).from _, rfl, xn, hxa, by rw [Int.toNat_natCast]; exact hp, (hmx.later hb).set 0 _, (hkp.below hb).set _ (.inl rfl), hmk.keeps (hko.trans (KeepsOthers.setCell _ _ _))⟩
  · rw [decide_eq_false hp]
    refine if15_no lp n' N qf vs vt vo vp mb ns j xn _ [] z' _ fun A => ?_
    simp only [Exit.inBlock]
    refine ⟨hko.from _, ⟨fun i => i.later hb, hb.size⟩, hmx.later hb, hnx.later hb, hkp.below hb, fun y hy => ?_, hmk.later hb⟩
    rcases List.mem_append.1 hy with hy | hy
    · exact hno y hy
    · rw [List.mem_singleton] at hy
      subst hy
      dsimp only
      rw [Int.toNat_natCast]
      omega
set_option maxHeartbeats 400000 in
theorem rng61_walk (N qf fb Nn : Nat) (vs vt vo vp : Value) (mb ns j : Nat) (w W0 W : World) (q : Nat) (a1 : Option Addr) (nm c1 : Nat) (v2 : Value) (p : Pl) (m : Nat) (rm : List Int) (Ds : List Nat) (z : Nat → Value)
    (hl : rm.length = 16900) (hok : OkP p) (hm : m < 64) (hf : Box W0 qf 143 [.pointer (some ⟨fb, 0, none⟩)]) (hr : Box W0 fb 150 (roomV rm Nn)) (hq1 : qf ≠ mb) (hq2 : fb ≠ mb)
    (hwW : w.heap.size ≤ W.heap.size) (h0W : W0.heap.size ≤ W.heap.size)
    (hin : InD w W0 mb q (.slice a1 nm c1) v2 p m rm Ds [] W)
    (hex : ∃ x, (⟨(m : Int), x⟩ : Ar) ∈ p.arcs ∧ 0 < matR rm (2 * x.toNat) (2 * m + 1))
    (h57 : z 57 = .func (.func 139) #[] #[.pointer (some ⟨q, 0, none⟩), .pointer (some ⟨q + 1, 0, none⟩)]) (Q : Exit → Act → World → Prop)
    (hstop : ∀ (D : Nat) (x : Int) (W' : World), W.heap.size ≤ D → (⟨(m : Int), x⟩ : Ar) ∈ p.arcs → 0 < matR rm (2 * x.toNat) (2 * m + 1) → Box W' mb 3 [.int .i64 x] → Kept (fun k => k = mb) W0 W' → W'.heap[D]? = some (.deferred (some [])) → MarksIn W' Ds →
      Q (.exit 4) { tmps := (fr61 N qf vs vt vo vp mb ns j z).toArray, defers := marksOf (D :: Ds) } W') :
    rng61.wp Tryz.prog Q { tmps := (fr61 N qf vs vt vo vp mb ns j z).toArray, defers := marksOf Ds } W := by
  refine (wpIn_wide (n := 9)).1 ?_
  rw [rng61_eq]
  have hnx : NxR W q w.heap.size (.slice a1 nm c1) v2 p m := hin.2.1
  have hDs : ∀ D ∈ Ds, D < W.heap.size := fun D hD => (Array.getElem?_eq_some_iff.1 (hin.2.2.2.2 D hD)).1
  refine wpIn_rangeFunc_ownH rfl (by omega) (gf := 139) (lb := #[.pointer (some ⟨q, 0, none⟩), .pointer (some ⟨q + 1, 0, none⟩)]) h57 trivial (enters_of Tryz.func139 (by kernel_rfl) rfl)
    (next_stopsP 8 (by omega) q w.heap.size _ _ c1 v2 p m hok.ale W hnx) KpN.t (fun W' k o o' hk h ho _ => KpN.b W' k o o' (Nat.le_trans hwW hk) h ho) (Below.refl _ _) (fun _ => rfl)
    (InD w W0 mb q (.slice a1 nm c1) v2 p m rm Ds) (OutD W0 mb p m rm Ds)
    (InD.own hwW h0W hDs) (fun c => OutD.own h0W hDs c) hin
    (fun x a' _ => ∃ z', a' = { tmps := (fr61x N qf vs vt vo vp mb ns j x.1 z').toArray, defers := [] })
    (fun x a' => fun _ A A' row h _ _ => h) ?_ ?_ ?_ ?_
  · intro lp pre x W1 K hI hK
    have ef : ((#[58] : Array Tmp).zip (encN x.1)).foldl (fun t (p, v) => t.setIfInBounds p v) (fr61 N qf vs vt vo vp mb ns j z).toArray = ((fr61 N qf vs vt vo vp mb ns j z).set 58 (.int .i64 x.1)).toArray := by
      simp [encN]
    obtain ⟨z', hz'⟩ := fr61n_of N qf vs vt vo vp mb ns j x.1 ((fr61 N qf vs vt vo vp mb ns j z).set 58 (.int .i64 x.1))
      (by rfl) (by rfl) (by rfl) (by rfl) (by rfl) (by rfl) (by rfl) (by rfl) (by rfl) (by rfl) (by rfl) (by rfl)
    rw [ef, hz']
    refine asg61_walk lp _ N qf vs vt vo vp mb ns j x.1 W1 z' K fun z'' => ?_
    exact hK _ _ (KeepsFrom.refl _ _) ⟨id, Nat.le_refl _⟩ hI ⟨z'', rfl⟩
  · rintro lp pre x a' W1 _ _ hI ⟨z', rfl⟩ hlen
    exact bdy61_walk lp _ N qf fb Nn vs vt vo vp mb ns j w W0 W1 q _ v2 p m rm Ds pre x z' W.heap.size hl hok hm hf hr hq1 hq2 hI
  · rintro D xs W1 hD hS ⟨_, _, _, h4, _⟩ hK
    obtain ⟨x, hx1, hx2⟩ := hex
    have hS : xs.map Subtype.val = nextL p m := hS
    have hx := mem_nextL.2 hx1
    rw [← hS] at hx
    obtain ⟨y, hy, rfl⟩ := List.mem_map.1 hx
    have := h4 y hy
    omega
  · rintro D c pre W1 hD hp ⟨rfl, x, h1, h2, h3, h4, h5⟩ hK
    exact wpIn_exit (hstop D x W1 hD h1 h2 h3 h4 hK h5)
end Go.Proofs.YtahpdkkpnkhnhaaGreatDoor
