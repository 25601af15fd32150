/- Lemmas on the way to the laws (part 6): Ni -/
import Derived.Test.YtlakcghdehdeiaaLib05
import Derived.WalkMore
set_option linter.unusedVariables false
set_option linter.unusedSimpArgs false

/- The search of a network: its code in pieces, its frames, what holds between rounds; the body of its range. -/
namespace Go.Proofs.Ytlakcghdehdeiaa
open Go Go.Proofs Go.RowKit Go.Shelf
attribute [local go_sem] Oper.semAt_some

/-- The first, the second part of a piece of code. -/
def codeL : Code → Code
  | .seq a _ => a | .block _ b => b | .loop b => b | .scope b => b | .cond _ a _ => a | .rangeFunc _ _ a _ => a | c => c
def codeR : Code → Code
  | .seq _ b => b | .cond _ _ b => b | .rangeFunc _ _ _ b => b | c => c
noncomputable def blk91 : Code := codeL (codeR (codeR (codeR (codeR (codeR (codeR (codeL (codeR (Try.f91.body.getD .skip)))))))))
noncomputable def rest91 : Code := codeR (codeR (codeR (codeR (codeR (codeR (codeR (codeL (codeR (Try.f91.body.getD .skip)))))))))
noncomputable def rnd91 : Code := codeL (codeL blk91)
noncomputable def rng91 : Code := codeL (codeR (codeR (codeR (codeL (codeR rnd91)))))
noncomputable def asg91 : Code := codeL rng91
noncomputable def bdy91 : Code := codeR rng91

def fr91 (nb u t N : Nat) (most wo : Int) (z : Nat → Value) : List Value := [.pointer (some ⟨nb, 0, none⟩), .int .i64 u, .int .i64 t, .int .i64 most, .int .i64 wo, .pointer (some ⟨N, 0, none⟩), z 6, .pointer (some ⟨N + 1, 0, none⟩), z 8, z 9, .int .i64 0, .pointer (some ⟨N + 1 + 1, 0, none⟩), .pointer (some ⟨N + 1 + 1 + 1, 0, none⟩), .pointer (some ⟨N + 1 + 1 + 1 + 1 + 1, 0, none⟩), z 14, z 15, z 16, z 17, z 18, z 19, z 20, z 21, z 22, z 23, z 24, z 25, z 26, z 27, z 28, z 29, z 30, z 31, z 32, z 33, z 34, z 35, z 36, z 37, z 38, z 39, z 40, z 41, z 42, z 43, z 44, z 45, z 46, z 47, z 48, z 49, z 50, z 51, z 52, z 53, z 54, z 55, z 56, z 57, z 58, z 59, z 60, z 61, z 62, z 63, z 64, z 65, z 66, z 67, z 68, z 69, z 70, z 71, z 72, z 73, z 74, z 75, z 76, z 77, z 78, z 79, z 80, z 81, z 82, z 83, z 84, z 85, z 86, z 87, z 88, z 89, z 90, z 91, z 92, z 93, z 94, z 95, z 96, z 97, z 98, z 99, z 100, z 101, z 102, z 103, z 104, z 105, z 106, z 107, z 108, z 109, z 110, z 111, z 112, z 113, z 114, z 115, z 116, z 117, z 118, z 119, z 120, z 121, z 122, z 123, z 124, z 125, z 126]
theorem fr91_of (nb u t N : Nat) (most wo : Int) (L : List Value) (hL : L.length = 127) (h0 : L[0]? = some (.pointer (some ⟨nb, 0, none⟩))) (h1 : L[1]? = some (.int .i64 u)) (h2 : L[2]? = some (.int .i64 t)) (h3 : L[3]? = some (.int .i64 most)) (h4 : L[4]? = some (.int .i64 wo)) (h5 : L[5]? = some (.pointer (some ⟨N, 0, none⟩))) (h7 : L[7]? = some (.pointer (some ⟨N + 1, 0, none⟩))) (h10 : L[10]? = some (.int .i64 0)) (h11 : L[11]? = some (.pointer (some ⟨N + 1 + 1, 0, none⟩))) (h12 : L[12]? = some (.pointer (some ⟨N + 1 + 1 + 1, 0, none⟩))) (h13 : L[13]? = some (.pointer (some ⟨N + 1 + 1 + 1 + 1 + 1, 0, none⟩))) : ∃ z, L = fr91 nb u t N most wo z := by
  refine ⟨fun i => L.getD i undef, ?_⟩
  unfold fr91
  have e := list_range L 127 hL
  have e0 : L.getD 0 undef = .pointer (some ⟨nb, 0, none⟩) := by rw [List.getD_eq_getElem?_getD, h0]; rfl
  have e1 : L.getD 1 undef = .int .i64 u := by rw [List.getD_eq_getElem?_getD, h1]; rfl
  have e2 : L.getD 2 undef = .int .i64 t := by rw [List.getD_eq_getElem?_getD, h2]; rfl
  have e3 : L.getD 3 undef = .int .i64 most := by rw [List.getD_eq_getElem?_getD, h3]; rfl
  have e4 : L.getD 4 undef = .int .i64 wo := by rw [List.getD_eq_getElem?_getD, h4]; rfl
  have e5 : L.getD 5 undef = .pointer (some ⟨N, 0, none⟩) := by rw [List.getD_eq_getElem?_getD, h5]; rfl
  have e7 : L.getD 7 undef = .pointer (some ⟨N + 1, 0, none⟩) := by rw [List.getD_eq_getElem?_getD, h7]; rfl
  have e10 : L.getD 10 undef = .int .i64 0 := by rw [List.getD_eq_getElem?_getD, h10]; rfl
  have e11 : L.getD 11 undef = .pointer (some ⟨N + 1 + 1, 0, none⟩) := by rw [List.getD_eq_getElem?_getD, h11]; rfl
  have e12 : L.getD 12 undef = .pointer (some ⟨N + 1 + 1 + 1, 0, none⟩) := by rw [List.getD_eq_getElem?_getD, h12]; rfl
  have e13 : L.getD 13 undef = .pointer (some ⟨N + 1 + 1 + 1 + 1 + 1, 0, none⟩) := by rw [List.getD_eq_getElem?_getD, h13]; rfl
  rw [← e0, ← e1, ← e2, ← e3, ← e4, ← e5, ← e7, ← e10, ← e11, ← e12, ← e13]
  exact e
theorem fr91_act (nb u t N : Nat) (most wo : Int) (A : Act) (ds : List Deferred) (hds : A.defers = ds) (hL : A.tmps.size = 127) (h0 : A.tmps[0]? = some (.pointer (some ⟨nb, 0, none⟩))) (h1 : A.tmps[1]? = some (.int .i64 u)) (h2 : A.tmps[2]? = some (.int .i64 t)) (h3 : A.tmps[3]? = some (.int .i64 most)) (h4 : A.tmps[4]? = some (.int .i64 wo)) (h5 : A.tmps[5]? = some (.pointer (some ⟨N, 0, none⟩))) (h7 : A.tmps[7]? = some (.pointer (some ⟨N + 1, 0, none⟩))) (h10 : A.tmps[10]? = some (.int .i64 0)) (h11 : A.tmps[11]? = some (.pointer (some ⟨N + 1 + 1, 0, none⟩))) (h12 : A.tmps[12]? = some (.pointer (some ⟨N + 1 + 1 + 1, 0, none⟩))) (h13 : A.tmps[13]? = some (.pointer (some ⟨N + 1 + 1 + 1 + 1 + 1, 0, none⟩))) : ∃ z, A = { tmps := (fr91 nb u t N most wo z).toArray, defers := ds } := by
  obtain ⟨z, e⟩ := fr91_of nb u t N most wo A.tmps.toList (by rw [Array.length_toList]; exact hL) (by rw [Array.getElem?_toList]; exact h0) (by rw [Array.getElem?_toList]; exact h1) (by rw [Array.getElem?_toList]; exact h2) (by rw [Array.getElem?_toList]; exact h3) (by rw [Array.getElem?_toList]; exact h4) (by rw [Array.getElem?_toList]; exact h5) (by rw [Array.getElem?_toList]; exact h7) (by rw [Array.getElem?_toList]; exact h10) (by rw [Array.getElem?_toList]; exact h11) (by rw [Array.getElem?_toList]; exact h12) (by rw [Array.getElem?_toList]; exact h13)
  exact ⟨z, by cases A; subst hds; dsimp only at e ⊢; rw [← e]⟩
def fr91a (nb u t N : Nat) (most wo : Int) (pat : Nat) (z : Nat → Value) : List Value := [.pointer (some ⟨nb, 0, none⟩), .int .i64 u, .int .i64 t, .int .i64 most, .int .i64 wo, .pointer (some ⟨N, 0, none⟩), z 6, .pointer (some ⟨N + 1, 0, none⟩), z 8, z 9, .int .i64 0, .pointer (some ⟨N + 1 + 1, 0, none⟩), .pointer (some ⟨N + 1 + 1 + 1, 0, none⟩), .pointer (some ⟨N + 1 + 1 + 1 + 1 + 1, 0, none⟩), .pointer (some ⟨pat, 0, none⟩), z 15, z 16, z 17, z 18, z 19, z 20, z 21, z 22, z 23, z 24, z 25, z 26, z 27, z 28, z 29, z 30, z 31, z 32, z 33, z 34, z 35, z 36, z 37, z 38, z 39, z 40, z 41, z 42, z 43, z 44, z 45, z 46, z 47, z 48, z 49, z 50, z 51, z 52, z 53, z 54, z 55, z 56, z 57, z 58, z 59, z 60, z 61, z 62, z 63, z 64, z 65, z 66, z 67, z 68, z 69, z 70, z 71, z 72, z 73, z 74, z 75, z 76, z 77, z 78, z 79, z 80, z 81, z 82, z 83, z 84, z 85, z 86, z 87, z 88, z 89, z 90, z 91, z 92, z 93, z 94, z 95, z 96, z 97, z 98, z 99, z 100, z 101, z 102, z 103, z 104, z 105, z 106, z 107, z 108, z 109, z 110, z 111, z 112, z 113, z 114, z 115, z 116, z 117, z 118, z 119, z 120, z 121, z 122, z 123, z 124, z 125, z 126]
def fr91b (nb u t N : Nat) (most wo : Int) (pat : Nat) (s : St) (nx : Nat) (z : Nat → Value) : List Value := [.pointer (some ⟨nb, 0, none⟩), .int .i64 u, .int .i64 t, .int .i64 most, .int .i64 wo, .pointer (some ⟨N, 0, none⟩), z 6, .pointer (some ⟨N + 1, 0, none⟩), z 8, z 9, .int .i64 0, .pointer (some ⟨N + 1 + 1, 0, none⟩), .pointer (some ⟨N + 1 + 1 + 1, 0, none⟩), .pointer (some ⟨N + 1 + 1 + 1 + 1 + 1, 0, none⟩), .pointer (some ⟨pat, 0, none⟩), z 15, z 16, z 17, z 18, z 19, z 20, z 21, z 22, z 23, z 24, z 25, z 26, z 27, z 28, z 29, z 30, z 31, z 32, z 33, z 34, z 35, z 36, z 37, z 38, z 39, z 40, z 41, z 42, .agg #[.int .i64 s.1, .bool s.2], .int .i64 nx, z 45, z 46, z 47, z 48, z 49, z 50, z 51, z 52, z 53, z 54, z 55, z 56, z 57, z 58, z 59, z 60, z 61, z 62, z 63, z 64, z 65, z 66, z 67, z 68, z 69, z 70, z 71, z 72, z 73, z 74, z 75, z 76, z 77, z 78, z 79, z 80, z 81, z 82, z 83, z 84, z 85, z 86, z 87, z 88, z 89, z 90, z 91, z 92, z 93, z 94, z 95, z 96, z 97, z 98, z 99, z 100, z 101, z 102, z 103, z 104, z 105, z 106, z 107, z 108, z 109, z 110, z 111, z 112, z 113, z 114, z 115, z 116, z 117, z 118, z 119, z 120, z 121, z 122, z 123, z 124, z 125, z 126]
def fr91c (nb u t N : Nat) (most wo : Int) (pat Bx nx : Nat) (z : Nat → Value) : List Value := [.pointer (some ⟨nb, 0, none⟩), .int .i64 u, .int .i64 t, .int .i64 most, .int .i64 wo, .pointer (some ⟨N, 0, none⟩), z 6, .pointer (some ⟨N + 1, 0, none⟩), z 8, z 9, .int .i64 0, .pointer (some ⟨N + 1 + 1, 0, none⟩), .pointer (some ⟨N + 1 + 1 + 1, 0, none⟩), .pointer (some ⟨N + 1 + 1 + 1 + 1 + 1, 0, none⟩), .pointer (some ⟨pat, 0, none⟩), .pointer (some ⟨Bx, 0, none⟩), .int .i64 nx, z 17, z 18, z 19, z 20, z 21, z 22, z 23, z 24, z 25, z 26, z 27, z 28, z 29, z 30, z 31, z 32, z 33, z 34, z 35, z 36, z 37, z 38, z 39, z 40, z 41, z 42, z 43, z 44, z 45, z 46, z 47, z 48, z 49, z 50, z 51, z 52, z 53, z 54, z 55, z 56, z 57, z 58, z 59, z 60, z 61, z 62, z 63, z 64, z 65, z 66, z 67, z 68, z 69, z 70, z 71, z 72, z 73, z 74, z 75, z 76, z 77, z 78, z 79, z 80, z 81, z 82, z 83, z 84, z 85, z 86, z 87, z 88, z 89, z 90, z 91, z 92, z 93, z 94, z 95, z 96, z 97, z 98, z 99, z 100, z 101, z 102, z 103, z 104, z 105, z 106, z 107, z 108, z 109, z 110, z 111, z 112, z 113, z 114, z 115, z 116, z 117, z 118, z 119, z 120, z 121, z 122, z 123, z 124, z 125, z 126]
theorem fr91c_of (nb u t N : Nat) (most wo : Int) (pat Bx nx : Nat) (L : List Value) (hL : L.length = 127) (h0 : L[0]? = some (.pointer (some ⟨nb, 0, none⟩))) (h1 : L[1]? = some (.int .i64 u)) (h2 : L[2]? = some (.int .i64 t)) (h3 : L[3]? = some (.int .i64 most)) (h4 : L[4]? = some (.int .i64 wo)) (h5 : L[5]? = some (.pointer (some ⟨N, 0, none⟩))) (h7 : L[7]? = some (.pointer (some ⟨N + 1, 0, none⟩))) (h10 : L[10]? = some (.int .i64 0)) (h11 : L[11]? = some (.pointer (some ⟨N + 1 + 1, 0, none⟩))) (h12 : L[12]? = some (.pointer (some ⟨N + 1 + 1 + 1, 0, none⟩))) (h13 : L[13]? = some (.pointer (some ⟨N + 1 + 1 + 1 + 1 + 1, 0, none⟩))) (h14 : L[14]? = some (.pointer (some ⟨pat, 0, none⟩))) (h15 : L[15]? = some (.pointer (some ⟨Bx, 0, none⟩))) (h16 : L[16]? = some (.int .i64 nx)) : ∃ z, L = fr91c nb u t N most wo pat Bx nx z := by
  refine ⟨fun i => L.getD i undef, ?_⟩
  unfold fr91c
  have e := list_range L 127 hL
  have e0 : L.getD 0 undef = .pointer (some ⟨nb, 0, none⟩) := by rw [List.getD_eq_getElem?_getD, h0]; rfl
  have e1 : L.getD 1 undef = .int .i64 u := by rw [List.getD_eq_getElem?_getD, h1]; rfl
  have e2 : L.getD 2 undef = .int .i64 t := by rw [List.getD_eq_getElem?_getD, h2]; rfl
  have e3 : L.getD 3 undef = .int .i64 most := by rw [List.getD_eq_getElem?_getD, h3]; rfl
  have e4 : L.getD 4 undef = .int .i64 wo := by rw [List.getD_eq_getElem?_getD, h4]; rfl
  have e5 : L.getD 5 undef = .pointer (some ⟨N, 0, none⟩) := by rw [List.getD_eq_getElem?_getD, h5]; rfl
  have e7 : L.getD 7 undef = .pointer (some ⟨N + 1, 0, none⟩) := by rw [List.getD_eq_getElem?_getD, h7]; rfl
  have e10 : L.getD 10 undef = .int .i64 0 := by rw [List.getD_eq_getElem?_getD, h10]; rfl
  have e11 : L.getD 11 undef = .pointer (some ⟨N + 1 + 1, 0, none⟩) := by rw [List.getD_eq_getElem?_getD, h11]; rfl
  have e12 : L.getD 12 undef = .pointer (some ⟨N + 1 + 1 + 1, 0, none⟩) := by rw [List.getD_eq_getElem?_getD, h12]; rfl
  have e13 : L.getD 13 undef = .pointer (some ⟨N + 1 + 1 + 1 + 1 + 1, 0, none⟩) := by rw [List.getD_eq_getElem?_getD, h13]; rfl
  have e14 : L.getD 14 undef = .pointer (some ⟨pat, 0, none⟩) := by rw [List.getD_eq_getElem?_getD, h14]; rfl
  have e15 : L.getD 15 undef = .pointer (some ⟨Bx, 0, none⟩) := by rw [List.getD_eq_getElem?_getD, h15]; rfl
  have e16 : L.getD 16 undef = .int .i64 nx := by rw [List.getD_eq_getElem?_getD, h16]; rfl
  rw [← e0, ← e1, ← e2, ← e3, ← e4, ← e5, ← e7, ← e10, ← e11, ← e12, ← e13, ← e14, ← e15, ← e16]
  exact e
theorem fr91c_act (nb u t N : Nat) (most wo : Int) (pat Bx nx : Nat) (A : Act) (ds : List Deferred) (hds : A.defers = ds) (hL : A.tmps.size = 127) (h0 : A.tmps[0]? = some (.pointer (some ⟨nb, 0, none⟩))) (h1 : A.tmps[1]? = some (.int .i64 u)) (h2 : A.tmps[2]? = some (.int .i64 t)) (h3 : A.tmps[3]? = some (.int .i64 most)) (h4 : A.tmps[4]? = some (.int .i64 wo)) (h5 : A.tmps[5]? = some (.pointer (some ⟨N, 0, none⟩))) (h7 : A.tmps[7]? = some (.pointer (some ⟨N + 1, 0, none⟩))) (h10 : A.tmps[10]? = some (.int .i64 0)) (h11 : A.tmps[11]? = some (.pointer (some ⟨N + 1 + 1, 0, none⟩))) (h12 : A.tmps[12]? = some (.pointer (some ⟨N + 1 + 1 + 1, 0, none⟩))) (h13 : A.tmps[13]? = some (.pointer (some ⟨N + 1 + 1 + 1 + 1 + 1, 0, none⟩))) (h14 : A.tmps[14]? = some (.pointer (some ⟨pat, 0, none⟩))) (h15 : A.tmps[15]? = some (.pointer (some ⟨Bx, 0, none⟩))) (h16 : A.tmps[16]? = some (.int .i64 nx)) : ∃ z, A = { tmps := (fr91c nb u t N most wo pat Bx nx z).toArray, defers := ds } := by
  obtain ⟨z, e⟩ := fr91c_of nb u t N most wo pat Bx nx A.tmps.toList (by rw [Array.length_toList]; exact hL) (by rw [Array.getElem?_toList]; exact h0) (by rw [Array.getElem?_toList]; exact h1) (by rw [Array.getElem?_toList]; exact h2) (by rw [Array.getElem?_toList]; exact h3) (by rw [Array.getElem?_toList]; exact h4) (by rw [Array.getElem?_toList]; exact h5) (by rw [Array.getElem?_toList]; exact h7) (by rw [Array.getElem?_toList]; exact h10) (by rw [Array.getElem?_toList]; exact h11) (by rw [Array.getElem?_toList]; exact h12) (by rw [Array.getElem?_toList]; exact h13) (by rw [Array.getElem?_toList]; exact h14) (by rw [Array.getElem?_toList]; exact h15) (by rw [Array.getElem?_toList]; exact h16)
  exact ⟨z, by cases A; subst hds; dsimp only at e ⊢; rw [← e]⟩
theorem fr91a_of (nb u t N : Nat) (most wo : Int) (pat : Nat) (L : List Value) (hL : L.length = 127) (h0 : L[0]? = some (.pointer (some ⟨nb, 0, none⟩))) (h1 : L[1]? = some (.int .i64 u)) (h2 : L[2]? = some (.int .i64 t)) (h3 : L[3]? = some (.int .i64 most)) (h4 : L[4]? = some (.int .i64 wo)) (h5 : L[5]? = some (.pointer (some ⟨N, 0, none⟩))) (h7 : L[7]? = some (.pointer (some ⟨N + 1, 0, none⟩))) (h10 : L[10]? = some (.int .i64 0)) (h11 : L[11]? = some (.pointer (some ⟨N + 1 + 1, 0, none⟩))) (h12 : L[12]? = some (.pointer (some ⟨N + 1 + 1 + 1, 0, none⟩))) (h13 : L[13]? = some (.pointer (some ⟨N + 1 + 1 + 1 + 1 + 1, 0, none⟩))) (h14 : L[14]? = some (.pointer (some ⟨pat, 0, none⟩))) : ∃ z, L = fr91a nb u t N most wo pat z := by
  refine ⟨fun i => L.getD i undef, ?_⟩
  unfold fr91a
  have e := list_range L 127 hL
  have e0 : L.getD 0 undef = .pointer (some ⟨nb, 0, none⟩) := by rw [List.getD_eq_getElem?_getD, h0]; rfl
  have e1 : L.getD 1 undef = .int .i64 u := by rw [List.getD_eq_getElem?_getD, h1]; rfl
  have e2 : L.getD 2 undef = .int .i64 t := by rw [List.getD_eq_getElem?_getD, h2]; rfl
  have e3 : L.getD 3 undef = .int .i64 most := by rw [List.getD_eq_getElem?_getD, h3]; rfl
  have e4 : L.getD 4 undef = .int .i64 wo := by rw [List.getD_eq_getElem?_getD, h4]; rfl
  have e5 : L.getD 5 undef = .pointer (some ⟨N, 0, none⟩) := by rw [List.getD_eq_getElem?_getD, h5]; rfl
  have e7 : L.getD 7 undef = .pointer (some ⟨N + 1, 0, none⟩) := by rw [List.getD_eq_getElem?_getD, h7]; rfl
  have e10 : L.getD 10 undef = .int .i64 0 := by rw [List.getD_eq_getElem?_getD, h10]; rfl
  have e11 : L.getD 11 undef = .pointer (some ⟨N + 1 + 1, 0, none⟩) := by rw [List.getD_eq_getElem?_getD, h11]; rfl
  have e12 : L.getD 12 undef = .pointer (some ⟨N + 1 + 1 + 1, 0, none⟩) := by rw [List.getD_eq_getElem?_getD, h12]; rfl
  have e13 : L.getD 13 undef = .pointer (some ⟨N + 1 + 1 + 1 + 1 + 1, 0, none⟩) := by rw [List.getD_eq_getElem?_getD, h13]; rfl
  have e14 : L.getD 14 undef = .pointer (some ⟨pat, 0, none⟩) := by rw [List.getD_eq_getElem?_getD, h14]; rfl
  rw [← e0, ← e1, ← e2, ← e3, ← e4, ← e5, ← e7, ← e10, ← e11, ← e12, ← e13, ← e14]
  exact e
theorem fr91a_act (nb u t N : Nat) (most wo : Int) (pat : Nat) (A : Act) (ds : List Deferred) (hds : A.defers = ds) (hL : A.tmps.size = 127) (h0 : A.tmps[0]? = some (.pointer (some ⟨nb, 0, none⟩))) (h1 : A.tmps[1]? = some (.int .i64 u)) (h2 : A.tmps[2]? = some (.int .i64 t)) (h3 : A.tmps[3]? = some (.int .i64 most)) (h4 : A.tmps[4]? = some (.int .i64 wo)) (h5 : A.tmps[5]? = some (.pointer (some ⟨N, 0, none⟩))) (h7 : A.tmps[7]? = some (.pointer (some ⟨N + 1, 0, none⟩))) (h10 : A.tmps[10]? = some (.int .i64 0)) (h11 : A.tmps[11]? = some (.pointer (some ⟨N + 1 + 1, 0, none⟩))) (h12 : A.tmps[12]? = some (.pointer (some ⟨N + 1 + 1 + 1, 0, none⟩))) (h13 : A.tmps[13]? = some (.pointer (some ⟨N + 1 + 1 + 1 + 1 + 1, 0, none⟩))) (h14 : A.tmps[14]? = some (.pointer (some ⟨pat, 0, none⟩))) : ∃ z, A = { tmps := (fr91a nb u t N most wo pat z).toArray, defers := ds } := by
  obtain ⟨z, e⟩ := fr91a_of nb u t N most wo pat A.tmps.toList (by rw [Array.length_toList]; exact hL) (by rw [Array.getElem?_toList]; exact h0) (by rw [Array.getElem?_toList]; exact h1) (by rw [Array.getElem?_toList]; exact h2) (by rw [Array.getElem?_toList]; exact h3) (by rw [Array.getElem?_toList]; exact h4) (by rw [Array.getElem?_toList]; exact h5) (by rw [Array.getElem?_toList]; exact h7) (by rw [Array.getElem?_toList]; exact h10) (by rw [Array.getElem?_toList]; exact h11) (by rw [Array.getElem?_toList]; exact h12) (by rw [Array.getElem?_toList]; exact h13) (by rw [Array.getElem?_toList]; exact h14)
  exact ⟨z, by cases A; subst hds; dsimp only at e ⊢; rw [← e]⟩
theorem fr91b_of (nb u t N : Nat) (most wo : Int) (pat : Nat) (s : St) (nx : Nat) (L : List Value) (hL : L.length = 127) (h0 : L[0]? = some (.pointer (some ⟨nb, 0, none⟩))) (h1 : L[1]? = some (.int .i64 u)) (h2 : L[2]? = some (.int .i64 t)) (h3 : L[3]? = some (.int .i64 most)) (h4 : L[4]? = some (.int .i64 wo)) (h5 : L[5]? = some (.pointer (some ⟨N, 0, none⟩))) (h7 : L[7]? = some (.pointer (some ⟨N + 1, 0, none⟩))) (h10 : L[10]? = some (.int .i64 0)) (h11 : L[11]? = some (.pointer (some ⟨N + 1 + 1, 0, none⟩))) (h12 : L[12]? = some (.pointer (some ⟨N + 1 + 1 + 1, 0, none⟩))) (h13 : L[13]? = some (.pointer (some ⟨N + 1 + 1 + 1 + 1 + 1, 0, none⟩))) (h14 : L[14]? = some (.pointer (some ⟨pat, 0, none⟩))) (h43 : L[43]? = some (.agg #[.int .i64 s.1, .bool s.2])) (h44 : L[44]? = some (.int .i64 nx)) : ∃ z, L = fr91b nb u t N most wo pat s nx z := by
  refine ⟨fun i => L.getD i undef, ?_⟩
  unfold fr91b
  have e := list_range L 127 hL
  have e0 : L.getD 0 undef = .pointer (some ⟨nb, 0, none⟩) := by rw [List.getD_eq_getElem?_getD, h0]; rfl
  have e1 : L.getD 1 undef = .int .i64 u := by rw [List.getD_eq_getElem?_getD, h1]; rfl
  have e2 : L.getD 2 undef = .int .i64 t := by rw [List.getD_eq_getElem?_getD, h2]; rfl
  have e3 : L.getD 3 undef = .int .i64 most := by rw [List.getD_eq_getElem?_getD, h3]; rfl
  have e4 : L.getD 4 undef = .int .i64 wo := by rw [List.getD_eq_getElem?_getD, h4]; rfl
  have e5 : L.getD 5 undef = .pointer (some ⟨N, 0, none⟩) := by rw [List.getD_eq_getElem?_getD, h5]; rfl
  have e7 : L.getD 7 undef = .pointer (some ⟨N + 1, 0, none⟩) := by rw [List.getD_eq_getElem?_getD, h7]; rfl
  have e10 : L.getD 10 undef = .int .i64 0 := by rw [List.getD_eq_getElem?_getD, h10]; rfl
  have e11 : L.getD 11 undef = .pointer (some ⟨N + 1 + 1, 0, none⟩) := by rw [List.getD_eq_getElem?_getD, h11]; rfl
  have e12 : L.getD 12 undef = .pointer (some ⟨N + 1 + 1 + 1, 0, none⟩) := by rw [List.getD_eq_getElem?_getD, h12]; rfl
  have e13 : L.getD 13 undef = .pointer (some ⟨N + 1 + 1 + 1 + 1 + 1, 0, none⟩) := by rw [List.getD_eq_getElem?_getD, h13]; rfl
  have e14 : L.getD 14 undef = .pointer (some ⟨pat, 0, none⟩) := by rw [List.getD_eq_getElem?_getD, h14]; rfl
  have e43 : L.getD 43 undef = .agg #[.int .i64 s.1, .bool s.2] := by rw [List.getD_eq_getElem?_getD, h43]; rfl
  have e44 : L.getD 44 undef = .int .i64 nx := by rw [List.getD_eq_getElem?_getD, h44]; rfl
  rw [← e0, ← e1, ← e2, ← e3, ← e4, ← e5, ← e7, ← e10, ← e11, ← e12, ← e13, ← e14, ← e43, ← e44]
  exact e
theorem fr91b_act (nb u t N : Nat) (most wo : Int) (pat : Nat) (s : St) (nx : Nat) (A : Act) (ds : List Deferred) (hds : A.defers = ds) (hL : A.tmps.size = 127) (h0 : A.tmps[0]? = some (.pointer (some ⟨nb, 0, none⟩))) (h1 : A.tmps[1]? = some (.int .i64 u)) (h2 : A.tmps[2]? = some (.int .i64 t)) (h3 : A.tmps[3]? = some (.int .i64 most)) (h4 : A.tmps[4]? = some (.int .i64 wo)) (h5 : A.tmps[5]? = some (.pointer (some ⟨N, 0, none⟩))) (h7 : A.tmps[7]? = some (.pointer (some ⟨N + 1, 0, none⟩))) (h10 : A.tmps[10]? = some (.int .i64 0)) (h11 : A.tmps[11]? = some (.pointer (some ⟨N + 1 + 1, 0, none⟩))) (h12 : A.tmps[12]? = some (.pointer (some ⟨N + 1 + 1 + 1, 0, none⟩))) (h13 : A.tmps[13]? = some (.pointer (some ⟨N + 1 + 1 + 1 + 1 + 1, 0, none⟩))) (h14 : A.tmps[14]? = some (.pointer (some ⟨pat, 0, none⟩))) (h43 : A.tmps[43]? = some (.agg #[.int .i64 s.1, .bool s.2])) (h44 : A.tmps[44]? = some (.int .i64 nx)) : ∃ z, A = { tmps := (fr91b nb u t N most wo pat s nx z).toArray, defers := ds } := by
  obtain ⟨z, e⟩ := fr91b_of nb u t N most wo pat s nx A.tmps.toList (by rw [Array.length_toList]; exact hL) (by rw [Array.getElem?_toList]; exact h0) (by rw [Array.getElem?_toList]; exact h1) (by rw [Array.getElem?_toList]; exact h2) (by rw [Array.getElem?_toList]; exact h3) (by rw [Array.getElem?_toList]; exact h4) (by rw [Array.getElem?_toList]; exact h5) (by rw [Array.getElem?_toList]; exact h7) (by rw [Array.getElem?_toList]; exact h10) (by rw [Array.getElem?_toList]; exact h11) (by rw [Array.getElem?_toList]; exact h12) (by rw [Array.getElem?_toList]; exact h13) (by rw [Array.getElem?_toList]; exact h14) (by rw [Array.getElem?_toList]; exact h43) (by rw [Array.getElem?_toList]; exact h44)
  exact ⟨z, by cases A; subst hds; dsimp only at e ⊢; rw [← e]⟩


def ints (l : List Nat) : List Value := l.map fun n : Nat => .int .i64 n
/-- The state of a search. -/
structure Srch (w : World) (N B nb : Nat) (v : Value) (l : List Ac) (tk pl u t : Nat) (wo : Int) (W : World) (g : Nat) (rc : List Bool) (byL : List St) (bkL dn qu : List Nat) (vq : Value) : Prop where
  mem : BfsW w W N B nb v l tk pl t rc (byL.flatMap encS) (ints bkL) vq g qu
  bfs : Bfs l wo u rc byL bkL (dn ++ qu)
  clo : ∀ a ∈ dn, ∀ y ∈ stepsTo l a wo l.length, y.2 ∈ dn ++ qu

/-- Between two steps from node a: those of pre have been looked at. -/
def InR (w : World) (N B nb : Nat) (v : Value) (l : List Ac) (tk pl u t : Nat) (wo : Int) (p pat : Nat) (Ds : List Nat) (dn : List Nat) (a : Nat) (pre : List (Sty l a wo)) (W : World) : Prop :=
  ∃ g rc byL bkL qu vq, BfsW w W N B nb v l tk pl t rc (byL.flatMap encS) (ints bkL) vq g qu ∧ Bfs l wo u rc byL bkL (dn ++ a :: qu) ∧ (∀ b ∈ dn, ∀ y ∈ stepsTo l b wo l.length, y.2 ∈ dn ++ a :: qu) ∧
    ItR W p B nb v l a wo ∧ Box W pat 3 [.int .i64 a] ∧ N + 1 + 1 + 1 + 1 + 1 < pat ∧ N + 1 + 1 + 1 + 1 + 1 < p ∧ g ≠ pat ∧ g ≠ p ∧ g ≠ p + 1 ∧ g ≠ p + 1 + 1 ∧ t ∉ dn ++ a :: qu ∧ (∀ y ∈ pre, y.1.2 ∈ dn ++ a :: qu) ∧ MarksIn W Ds
/-- A step has led to t. -/
def OutR (w : World) (N B nb : Nat) (v : Value) (l : List Ac) (tk pl u t : Nat) (wo : Int) (Ds : List Nat) (c : Code) (W : World) : Prop :=
  c = .exit 0 ∧ ∃ g rc byL bkL ord qu vq, BfsW w W N B nb v l tk pl t rc (byL.flatMap encS) (ints bkL) vq g qu ∧ Bfs l wo u rc byL bkL ord ∧ t ∈ ord ∧ MarksIn W Ds

theorem InR.ownFrom (w : World) (N B nb : Nat) (v : Value) (l : List Ac) (tk pl u t : Nat) (wo : Int) (p pat : Nat) (Ds : List Nat) (dn : List Nat) (a : Nat) (B0 : Nat) (hB : w.heap.size ≤ B0) (hD : ∀ D ∈ Ds, D < B0) :
    OwnFrom B0 (InR w N B nb v l tk pl u t wo p pat Ds dn a) := by
  rintro pre W W' row ⟨g, rc, byL, bkL, qu, vq, h1, h2, h3, h4, h5, h6, h7, h8, h9, h10, h11, h12, h13, h14⟩ hg hr
  have hn : NoCells W row := fun r e => (hr r e).2
  exact ⟨g, rc, byL, bkL, qu, vq, h1.noCells hg hn (fun k e => by have := (hr k e).1; omega), h2, h3, h4.step hg hn, h5.grown hg (hn.box h5), h6, h7, h8, h9, h10, h11, h12, h13,
    fun D hD' => (hg.block D (Array.getElem?_eq_some_iff.1 (h14 D hD')).1 (fun e => by have := (hr D e.symm).1; have := hD D hD'; omega)).trans (h14 D hD')⟩
theorem OutR.ownFrom (w : World) (N B nb : Nat) (v : Value) (l : List Ac) (tk pl u t : Nat) (wo : Int) (Ds : List Nat) (c : Code) (B0 : Nat) (hB : w.heap.size ≤ B0) (hD : ∀ D ∈ Ds, D < B0) {α : Type} :
    OwnFrom B0 (fun (_ : α) W => OutR w N B nb v l tk pl u t wo Ds c W) := by
  rintro _ W W' row ⟨hc, g, rc, byL, bkL, ord, qu, vq, h1, h2, h3, h14⟩ hg hr
  have hn : NoCells W row := fun r e => (hr r e).2
  exact ⟨hc, g, rc, byL, bkL, ord, qu, vq, h1.noCells hg hn (fun k e => by have := (hr k e).1; omega), h2, h3,
    fun D hD' => (hg.block D (Array.getElem?_eq_some_iff.1 (h14 D hD')).1 (fun e => by have := (hr D e.symm).1; have := hD D hD'; omega)).trans (h14 D hD')⟩

/-- A node more by its step. -/
theorem by_set (byL : List St) (x : Nat) (s : St) (hx : x < byL.length) : ((byL.flatMap encS).set (x * 2) (.int .i64 s.1)).set (x * 2 + 1) (.bool s.2) = (byL.set x s).flatMap encS := by
  have h1 := flat_set encS_len byL x hx 0 (by omega) (.int .i64 s.1) (s.1, byL[x].2) rfl
  rw [Nat.add_zero] at h1
  rw [h1]
  have h2 := flat_set encS_len (byL.set x (s.1, byL[x].2)) x (by simpa using hx) 1 (by omega) (.bool s.2) s (by simp [encS])
  rw [h2]; simp
theorem ints_set (bkL : List Nat) (x k : Nat) : (ints bkL).set x (.int .i64 k) = ints (bkL.set x k) := by unfold ints; rw [List.map_set]
end Go.Proofs.Ytlakcghdehdeiaa
