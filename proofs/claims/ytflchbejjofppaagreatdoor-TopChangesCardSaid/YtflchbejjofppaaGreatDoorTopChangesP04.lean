/- Lemmas on the way to the law TopChanges (part 4): WNi WNj WNk -/
import Derived.Test.YtflchbejjofppaaGreatDoorTopChangesP03
import Derived.WalkMore
set_option linter.unusedVariables false
set_option linter.unusedSimpArgs false

/- The search of a network: its code in pieces, its frames, what holds between rounds; the body of its range. -/
namespace Go.Proofs.YtflchbejjofppaaGreatDoor
open Go Go.Proofs Go.RowKit Go.Shelf
attribute [local go_sem] Oper.semAt_some
def codeL : Code → Code
  | .seq a _ => a | .block _ b => b | .loop b => b | .scope b => b | .cond _ a _ => a | .rangeFunc _ _ a _ => a | c => c
def codeR : Code → Code
  | .seq _ b => b | .cond _ _ b => b | .rangeFunc _ _ _ b => b | c => c
noncomputable def blk91 : Code := codeL (codeR (codeR (codeR (codeR (codeR (codeR (codeL (codeR (Tryz.f61.body.getD .skip)))))))))
noncomputable def rest91 : Code := codeR (codeR (codeR (codeR (codeR (codeR (codeR (codeL (codeR (Tryz.f61.body.getD .skip)))))))))
noncomputable def rnd91 : Code := codeL (codeL blk91)
noncomputable def rng91 : Code := codeL (codeR (codeR (codeR (codeL (codeR rnd91)))))
noncomputable def asg91 : Code := codeL rng91
noncomputable def bdy91 : Code := codeR rng91
def fr91 (nb u t N : Nat) (most wo : Int) (z : Nat → Value) : List Value := [.pointer (some ⟨nb, 0, none⟩), .int .i64 u, .int .i64 t, .int .i64 most, .int .i64 wo, .pointer (some ⟨N, 0, none⟩), z 6, .pointer (some ⟨N + 1, 0, none⟩), z 8, z 9, .int .i64 0, .pointer (some ⟨N + 1 + 1, 0, none⟩), .pointer (some ⟨N + 1 + 1 + 1, 0, none⟩), .pointer (some ⟨N + 1 + 1 + 1 + 1 + 1, 0, none⟩), z 14, z 15, z 16, z 17, z 18, z 19, z 20, z 21, z 22, z 23, z 24, z 25, z 26, z 27, z 28, z 29, z 30, z 31, z 32, z 33, z 34, z 35, z 36, z 37, z 38, z 39, z 40, z 41, z 42, z 43, z 44, z 45, z 46, z 47, z 48, z 49, z 50, z 51, z 52, z 53, z 54, z 55, z 56, z 57, z 58, z 59, z 60, z 61, z 62, z 63, z 64, z 65, z 66, z 67, z 68, z 69, z 70, z 71, z 72, z 73, z 74, z 75, z 76, z 77, z 78, z 79, z 80, z 81, z 82, z 83, z 84, z 85, z 86, z 87, z 88, z 89, z 90, z 91, z 92, z 93, z 94, z 95, z 96, z 97, z 98, z 99, z 100, z 101, z 102, z 103, z 104, z 105, z 106, z 107, z 108, z 109, z 110, z 111, z 112, z 113, z 114, z 115, z 116, z 117, z 118, z 119, z 120, z 121, z 122, z 123, z 124, z 125, z 126]
theorem fr91_of (nb u t N : Nat) (most wo : Int) (L : List Value) (hL : L.length = 127) (h0 : L[0]? = some (.pointer (some ⟨nb, 0, none⟩))) (h1 : L[1]? = some (.int .i64 u)) (h2 : L[2]? = some (.int .i64 t)) (h3 : L[3]? = some (.int .i64 most)) (h4 : L[4]? = some (.int .i64 wo)) (h5 : L[5]? = some (.pointer (some ⟨N, 0, none⟩))) (h7 : L[7]? = some (.pointer (some ⟨N + 1, 0, none⟩))) (h10 : L[10]? = some (.int .i64 0)) (h11 : L[11]? = some (.pointer (some ⟨N + 1 + 1, 0, none⟩))) (h12 : L[12]? = some (.pointer (some ⟨N + 1 + 1 + 1, 0, none⟩))) (h13 : L[13]? = some (.pointer (some ⟨N + 1 + 1 + 1 + 1 + 1, 0, none⟩))) : ∃ z, L = fr91 nb u t N most wo z := by
  refine ⟨fun i => L.getD i undef, ?_⟩
  unfold fr91
  have e := list_range L 127 hL
  have e0 : L.getD 0 undef = .pointer (some ⟨nb, 0, none⟩) := by rw [List.getD_eq_getElem?_getD, h0]; rfl
  have e1 : L.getD 1 undef = .int .i64 u := by rw [List.getD_eq_getElem?_getD, h1]; rfl
  have e2 : L.getD 2 undef = .int .i64 t := by rw [List.getD_eq_getElem?_getD, h2]; rfl
  have e3 : L.getD 3 undef = .int .i64 most := by rw [List.getD_eq_getElem?_getD, h3]; rfl
  have e4 : L.getD 4 undef = .int .i64 wo := by rw [List.getD_eq_getElem?_getD, h4]; rfl
  have e5 : L.getD 5 undef = .pointer (some ⟨N, 0, none⟩) := by rw [List.getD_eq_getElem?_getD, h5]; rfl
  have e7 : L.getD 7 undef = .pointer (some ⟨N + 1, 0, none⟩) := by rw [List.getD_eq_getElem?_getD, h7]; rfl
  have e10 : L.getD 10 undef = .int .i64 0 := by rw [List.getD_eq_getElem?_getD, h10]; rfl
  have e11 : L.getD 11 undef = .pointer (some ⟨N + 1 + 1, 0, none⟩) := by rw [List.getD_eq_getElem?_getD, h11]; rfl
  have e12 : L.getD 12 undef = .pointer (some ⟨N + 1 + 1 + 1, 0, none⟩) := by rw [List.getD_eq_getElem?_getD, h12]; rfl
  have e13 : L.getD 13 undef = .pointer (some ⟨N + 1 + 1 + 1 + 1 + 1, 0, none⟩) := by rw [List.getD_eq_getElem?_getD, h13]; rfl
  rw [← e0, ← e1, ← e2, ← e3, ← e4, ← e5, ← e7, ← e10, ← e11, ← e12, ← e13]
  exact e
theorem fr91_act (nb u t N : Nat) (most wo : Int) (A : Act) (ds : List Deferred) (hds : A.defers = ds) (hL : A.tmps.size = 127) (h0 : A.tmps[0]? = some (.pointer (some ⟨nb, 0, none⟩))) (h1 : A.tmps[1]? = some (.int .i64 u)) (h2 : A.tmps[2]? = some (.int .i64 t)) (h3 : A.tmps[3]? = some (.int .i64 most)) (h4 : A.tmps[4]? = some (.int .i64 wo)) (h5 : A.tmps[5]? = some (.pointer (some ⟨N, 0, none⟩))) (h7 : A.tmps[7]? = some (.pointer (some ⟨N + 1, 0, none⟩))) (h10 : A.tmps[10]? = some (.int .i64 0)) (h11 : A.tmps[11]? = some (.pointer (some ⟨N + 1 + 1, 0, none⟩))) (h12 : A.tmps[12]? = some (.pointer (some ⟨N + 1 + 1 + 1, 0, none⟩))) (h13 : A.tmps[13]? = some (.pointer (some ⟨N + 1 + 1 + 1 + 1 + 1, 0, none⟩))) : ∃ z, A = { tmps := (fr91 nb u t N most wo z).toArray, defers := ds } := by
  obtain ⟨z, e⟩ := fr91_of nb u t N most wo A.tmps.toList (by rw [Array.length_toList]; exact hL) (by rw [Array.getElem?_toList]; exact h0) (by rw [Array.getElem?_toList]; exact h1) (by rw [Array.getElem?_toList]; exact h2) (by rw [Array.getElem?_toList]; exact h3) (by rw [Array.getElem?_toList]; exact h4) (by rw [Array.getElem?_toList]; exact h5) (by rw [Array.getElem?_toList]; exact h7) (by rw [Array.getElem?_toList]; exact h10) (by rw [Array.getElem?_toList]; exact h11) (by rw [Array.getElem?_toList]; exact h12) (by rw [Array.getElem?_toList]; exact h13)
  exact ⟨z, by cases A; subst hds; dsimp only at e ⊢; rw [← e]⟩
def fr91a (nb u t N : Nat) (most wo : Int) (pat : Nat) (z : Nat → Value) : List Value := [.pointer (some ⟨nb, 0, none⟩), .int .i64 u, .int .i64 t, .int .i64 most, .int .i64 wo, .pointer (some ⟨N, 0, none⟩), z 6, .pointer (some ⟨N + 1, 0, none⟩), z 8, z 9, .int .i64 0, .pointer (some ⟨N + 1 + 1, 0, none⟩), .pointer (some ⟨N + 1 + 1 + 1, 0, none⟩), .pointer (some ⟨N + 1 + 1 + 1 + 1 + 1, 0, none⟩), .pointer (some ⟨pat, 0, none⟩), z 15, z 16, z 17, z 18, z 19, z 20, z 21, z 22, z 23, z 24, z 25, z 26, z 27, z 28, z 29, z 30, z 31, z 32, z 33, z 34, z 35, z 36, z 37, z 38, z 39, z 40, z 41, z 42, z 43, z 44, z 45, z 46, z 47, z 48, z 49, z 50, z 51, z 52, z 53, z 54, z 55, z 56, z 57, z 58, z 59, z 60, z 61, z 62, z 63, z 64, z 65, z 66, z 67, z 68, z 69, z 70, z 71, z 72, z 73, z 74, z 75, z 76, z 77, z 78, z 79, z 80, z 81, z 82, z 83, z 84, z 85, z 86, z 87, z 88, z 89, z 90, z 91, z 92, z 93, z 94, z 95, z 96, z 97, z 98, z 99, z 100, z 101, z 102, z 103, z 104, z 105, z 106, z 107, z 108, z 109, z 110, z 111, z 112, z 113, z 114, z 115, z 116, z 117, z 118, z 119, z 120, z 121, z 122, z 123, z 124, z 125, z 126]
def fr91b (nb u t N : Nat) (most wo : Int) (pat : Nat) (s : St) (nx : Nat) (z : Nat → Value) : List Value := [.pointer (some ⟨nb, 0, none⟩), .int .i64 u, .int .i64 t, .int .i64 most, .int .i64 wo, .pointer (some ⟨N, 0, none⟩), z 6, .pointer (some ⟨N + 1, 0, none⟩), z 8, z 9, .int .i64 0, .pointer (some ⟨N + 1 + 1, 0, none⟩), .pointer (some ⟨N + 1 + 1 + 1, 0, none⟩), .pointer (some ⟨N + 1 + 1 + 1 + 1 + 1, 0, none⟩), .pointer (some ⟨pat, 0, none⟩), z 15, z 16, z 17, z 18, z 19, z 20, z 21, z 22, z 23, z 24, z 25, z 26, z 27, z 28, z 29, z 30, z 31, z 32, z 33, z 34, z 35, z 36, z 37, z 38, z 39, z 40, z 41, z 42, .agg #[.int .i64 s.1, .bool s.2], .int .i64 nx, z 45, z 46, z 47, z 48, z 49, z 50, z 51, z 52, z 53, z 54, z 55, z 56, z 57, z 58, z 59, z 60, z 61, z 62, z 63, z 64, z 65, z 66, z 67, z 68, z 69, z 70, z 71, z 72, z 73, z 74, z 75, z 76, z 77, z 78, z 79, z 80, z 81, z 82, z 83, z 84, z 85, z 86, z 87, z 88, z 89, z 90, z 91, z 92, z 93, z 94, z 95, z 96, z 97, z 98, z 99, z 100, z 101, z 102, z 103, z 104, z 105, z 106, z 107, z 108, z 109, z 110, z 111, z 112, z 113, z 114, z 115, z 116, z 117, z 118, z 119, z 120, z 121, z 122, z 123, z 124, z 125, z 126]
def fr91c (nb u t N : Nat) (most wo : Int) (pat Bx nx : Nat) (z : Nat → Value) : List Value := [.pointer (some ⟨nb, 0, none⟩), .int .i64 u, .int .i64 t, .int .i64 most, .int .i64 wo, .pointer (some ⟨N, 0, none⟩), z 6, .pointer (some ⟨N + 1, 0, none⟩), z 8, z 9, .int .i64 0, .pointer (some ⟨N + 1 + 1, 0, none⟩), .pointer (some ⟨N + 1 + 1 + 1, 0, none⟩), .pointer (some ⟨N + 1 + 1 + 1 + 1 + 1, 0, none⟩), .pointer (some ⟨pat, 0, none⟩), .pointer (some ⟨Bx, 0, none⟩), .int .i64 nx, z 17, z 18, z 19, z 20, z 21, z 22, z 23, z 24, z 25, z 26, z 27, z 28, z 29, z 30, z 31, z 32, z 33, z 34, z 35, z 36, z 37, z 38, z 39, z 40, z 41, z 42, z 43, z 44, z 45, z 46, z 47, z 48, z 49, z 50, z 51, z 52, z 53, z 54, z 55, z 56, z 57, z 58, z 59, z 60, z 61, z 62, z 63, z 64, z 65, z 66, z 67, z 68, z 69, z 70, z 71, z 72, z 73, z 74, z 75, z 76, z 77, z 78, z 79, z 80, z 81, z 82, z 83, z 84, z 85, z 86, z 87, z 88, z 89, z 90, z 91, z 92, z 93, z 94, z 95, z 96, z 97, z 98, z 99, z 100, z 101, z 102, z 103, z 104, z 105, z 106, z 107, z 108, z 109, z 110, z 111, z 112, z 113, z 114, z 115, z 116, z 117, z 118, z 119, z 120, z 121, z 122, z 123, z 124, z 125, z 126]
theorem fr91c_of (nb u t N : Nat) (most wo : Int) (pat Bx nx : Nat) (L : List Value) (hL : L.length = 127) (h0 : L[0]? = some (.pointer (some ⟨nb, 0, none⟩))) (h1 : L[1]? = some (.int .i64 u)) (h2 : L[2]? = some (.int .i64 t)) (h3 : L[3]? = some (.int .i64 most)) (h4 : L[4]? = some (.int .i64 wo)) (h5 : L[5]? = some (.pointer (some ⟨N, 0, none⟩))) (h7 : L[7]? = some (.pointer (some ⟨N + 1, 0, none⟩))) (h10 : L[10]? = some (.int .i64 0)) (h11 : L[11]? = some (.pointer (some ⟨N + 1 + 1, 0, none⟩))) (h12 : L[12]? = some (.pointer (some ⟨N + 1 + 1 + 1, 0, none⟩))) (h13 : L[13]? = some (.pointer (some ⟨N + 1 + 1 + 1 + 1 + 1, 0, none⟩))) (h14 : L[14]? = some (.pointer (some ⟨pat, 0, none⟩))) (h15 : L[15]? = some (.pointer (some ⟨Bx, 0, none⟩))) (h16 : L[16]? = some (.int .i64 nx)) : ∃ z, L = fr91c nb u t N most wo pat Bx nx z := by
  refine ⟨fun i => L.getD i undef, ?_⟩
  unfold fr91c
  have e := list_range L 127 hL
  have e0 : L.getD 0 undef = .pointer (some ⟨nb, 0, none⟩) := by rw [List.getD_eq_getElem?_getD, h0]; rfl
  have e1 : L.getD 1 undef = .int .i64 u := by rw [List.getD_eq_getElem?_getD, h1]; rfl
  have e2 : L.getD 2 undef = .int .i64 t := by rw [List.getD_eq_getElem?_getD, h2]; rfl
  have e3 : L.getD 3 undef = .int .i64 most := by rw [List.getD_eq_getElem?_getD, h3]; rfl
  have e4 : L.getD 4 undef = .int .i64 wo := by rw [List.getD_eq_getElem?_getD, h4]; rfl
  have e5 : L.getD 5 undef = .pointer (some ⟨N, 0, none⟩) := by rw [List.getD_eq_getElem?_getD, h5]; rfl
  have e7 : L.getD 7 undef = .pointer (some ⟨N + 1, 0, none⟩) := by rw [List.getD_eq_getElem?_getD, h7]; rfl
  have e10 : L.getD 10 undef = .int .i64 0 := by rw [List.getD_eq_getElem?_getD, h10]; rfl
  have e11 : L.getD 11 undef = .pointer (some ⟨N + 1 + 1, 0, none⟩) := by rw [List.getD_eq_getElem?_getD, h11]; rfl
  have e12 : L.getD 12 undef = .pointer (some ⟨N + 1 + 1 + 1, 0, none⟩) := by rw [List.getD_eq_getElem?_getD, h12]; rfl
  have e13 : L.getD 13 undef = .pointer (some ⟨N + 1 + 1 + 1 + 1 + 1, 0, none⟩) := by rw [List.getD_eq_getElem?_getD, h13]; rfl
  have e14 : L.getD 14 undef = .pointer (some ⟨pat, 0, none⟩) := by rw [List.getD_eq_getElem?_getD, h14]; rfl
  have e15 : L.getD 15 undef = .pointer (some ⟨Bx, 0, none⟩) := by rw [List.getD_eq_getElem?_getD, h15]; rfl
  have e16 : L.getD 16 undef = .int .i64 nx := by rw [List.getD_eq_getElem?_getD, h16]; rfl
  rw [← e0, ← e1, ← e2, ← e3, ← e4, ← e5, ← e7, ← e10, ← e11, ← e12, ← e13, ← e14, ← e15, ← e16]
  exact e
theorem fr91c_act (nb u t N : Nat) (most wo : Int) (pat Bx nx : Nat) (A : Act) (ds : List Deferred) (hds : A.defers = ds) (hL : A.tmps.size = 127) (h0 : A.tmps[0]? = some (.pointer (some ⟨nb, 0, none⟩))) (h1 : A.tmps[1]? = some (.int .i64 u)) (h2 : A.tmps[2]? = some (.int .i64 t)) (h3 : A.tmps[3]? = some (.int .i64 most)) (h4 : A.tmps[4]? = some (.int .i64 wo)) (h5 : A.tmps[5]? = some (.pointer (some ⟨N, 0, none⟩))) (h7 : A.tmps[7]? = some (.pointer (some ⟨N + 1, 0, none⟩))) (h10 : A.tmps[10]? = some (.int .i64 0)) (h11 : A.tmps[11]? = some (.pointer (some ⟨N + 1 + 1, 0, none⟩))) (h12 : A.tmps[12]? = some (.pointer (some ⟨N + 1 + 1 + 1, 0, none⟩))) (h13 : A.tmps[13]? = some (.pointer (some ⟨N + 1 + 1 + 1 + 1 + 1, 0, none⟩))) (h14 : A.tmps[14]? = some (.pointer (some ⟨pat, 0, none⟩))) (h15 : A.tmps[15]? = some (.pointer (some ⟨Bx, 0, none⟩))) (h16 : A.tmps[16]? = some (.int .i64 nx)) : ∃ z, A = { tmps := (fr91c nb u t N most wo pat Bx nx z).toArray, defers := ds } := by
  obtain ⟨z, e⟩ := fr91c_of nb u t N most wo pat Bx nx A.tmps.toList (by rw [Array.length_toList]; exact hL) (by rw [Array.getElem?_toList]; exact h0) (by rw [Array.getElem?_toList]; exact h1) (by rw [Array.getElem?_toList]; exact h2) (by rw [Array.getElem?_toList]; exact h3) (by rw [Array.getElem?_toList]; exact h4) (by rw [Array.getElem?_toList]; exact h5) (by rw [Array.getElem?_toList]; exact h7) (by rw [Array.getElem?_toList]; exact h10) (by rw [Array.getElem?_toList]; exact h11) (by rw [Array.getElem?_toList]; exact h12) (by rw [Array.getElem?_toList]; exact h13) (by rw [Array.getElem?_toList]; exact h14) (by rw [Array.getElem?_toList]; exact h15) (by rw [Array.getElem?_toList]; exact h16)
  exact ⟨z, by cases A; subst hds; dsimp only at e ⊢; rw [← e]⟩
theorem fr91a_of (nb u t N : Nat) (most wo : Int) (pat : Nat) (L : List Value) (hL : L.length = 127) (h0 : L[0]? = some (.pointer (some ⟨nb, 0, none⟩))) (h1 : L[1]? = some (.int .i64 u)) (h2 : L[2]? = some (.int .i64 t)) (h3 : L[3]? = some (.int .i64 most)) (h4 : L[4]? = some (.int .i64 wo)) (h5 : L[5]? = some (.pointer (some ⟨N, 0, none⟩))) (h7 : L[7]? = some (.pointer (some ⟨N + 1, 0, none⟩))) (h10 : L[10]? = some (.int .i64 0)) (h11 : L[11]? = some (.pointer (some ⟨N + 1 + 1, 0, none⟩))) (h12 : L[12]? = some (.pointer (some ⟨N + 1 + 1 + 1, 0, none⟩))) (h13 : L[13]? = some (.pointer (some ⟨N + 1 + 1 + 1 + 1 + 1, 0, none⟩))) (h14 : L[14]? = some (.pointer (some ⟨pat, 0, none⟩))) : ∃ z, L = fr91a nb u t N most wo pat z := by
  refine ⟨fun i => L.getD i undef, ?_⟩
  unfold fr91a
  have e := list_range L 127 hL
  have e0 : L.getD 0 undef = .pointer (some ⟨nb, 0, none⟩) := by rw [List.getD_eq_getElem?_getD, h0]; rfl
  have e1 : L.getD 1 undef = .int .i64 u := by rw [List.getD_eq_getElem?_getD, h1]; rfl
  have e2 : L.getD 2 undef = .int .i64 t := by rw [List.getD_eq_getElem?_getD, h2]; rfl
  have e3 : L.getD 3 undef = .int .i64 most := by rw [List.getD_eq_getElem?_getD, h3]; rfl
  have e4 : L.getD 4 undef = .int .i64 wo := by rw [List.getD_eq_getElem?_getD, h4]; rfl
  have e5 : L.getD 5 undef = .pointer (some ⟨N, 0, none⟩) := by rw [List.getD_eq_getElem?_getD, h5]; rfl
  have e7 : L.getD 7 undef = .pointer (some ⟨N + 1, 0, none⟩) := by rw [List.getD_eq_getElem?_getD, h7]; rfl
  have e10 : L.getD 10 undef = .int .i64 0 := by rw [List.getD_eq_getElem?_getD, h10]; rfl
  have e11 : L.getD 11 undef = .pointer (some ⟨N + 1 + 1, 0, none⟩) := by rw [List.getD_eq_getElem?_getD, h11]; rfl
  have e12 : L.getD 12 undef = .pointer (some ⟨N + 1 + 1 + 1, 0, none⟩) := by rw [List.getD_eq_getElem?_getD, h12]; rfl
  have e13 : L.getD 13 undef = .pointer (some ⟨N + 1 + 1 + 1 + 1 + 1, 0, none⟩) := by rw [List.getD_eq_getElem?_getD, h13]; rfl
  have e14 : L.getD 14 undef = .pointer (some ⟨pat, 0, none⟩) := by rw [List.getD_eq_getElem?_getD, h14]; rfl
  rw [← e0, ← e1, ← e2, ← e3, ← e4, ← e5, ← e7, ← e10, ← e11, ← e12, ← e13, ← e14]
  exact e
theorem fr91a_act (nb u t N : Nat) (most wo : Int) (pat : Nat) (A : Act) (ds : List Deferred) (hds : A.defers = ds) (hL : A.tmps.size = 127) (h0 : A.tmps[0]? = some (.pointer (some ⟨nb, 0, none⟩))) (h1 : A.tmps[1]? = some (.int .i64 u)) (h2 : A.tmps[2]? = some (.int .i64 t)) (h3 : A.tmps[3]? = some (.int .i64 most)) (h4 : A.tmps[4]? = some (.int .i64 wo)) (h5 : A.tmps[5]? = some (.pointer (some ⟨N, 0, none⟩))) (h7 : A.tmps[7]? = some (.pointer (some ⟨N + 1, 0, none⟩))) (h10 : A.tmps[10]? = some (.int .i64 0)) (h11 : A.tmps[11]? = some (.pointer (some ⟨N + 1 + 1, 0, none⟩))) (h12 : A.tmps[12]? = some (.pointer (some ⟨N + 1 + 1 + 1, 0, none⟩))) (h13 : A.tmps[13]? = some (.pointer (some ⟨N + 1 + 1 + 1 + 1 + 1, 0, none⟩))) (h14 : A.tmps[14]? = some (.pointer (some ⟨pat, 0, none⟩))) : ∃ z, A = { tmps := (fr91a nb u t N most wo pat z).toArray, defers := ds } := by
  obtain ⟨z, e⟩ := fr91a_of nb u t N most wo pat A.tmps.toList (by rw [Array.length_toList]; exact hL) (by rw [Array.getElem?_toList]; exact h0) (by rw [Array.getElem?_toList]; exact h1) (by rw [Array.getElem?_toList]; exact h2) (by rw [Array.getElem?_toList]; exact h3) (by rw [Array.getElem?_toList]; exact h4) (by rw [Array.getElem?_toList]; exact h5) (by rw [Array.getElem?_toList]; exact h7) (by rw [Array.getElem?_toList]; exact h10) (by rw [Array.getElem?_toList]; exact h11) (by rw [Array.getElem?_toList]; exact h12) (by rw [Array.getElem?_toList]; exact h13) (by rw [Array.getElem?_toList]; exact h14)
  exact ⟨z, by cases A; subst hds; dsimp only at e ⊢; rw [← e]⟩
theorem fr91b_of (nb u t N : Nat) (most wo : Int) (pat : Nat) (s : St) (nx : Nat) (L : List Value) (hL : L.length = 127) (h0 : L[0]? = some (.pointer (some ⟨nb, 0, none⟩))) (h1 : L[1]? = some (.int .i64 u)) (h2 : L[2]? = some (.int .i64 t)) (h3 : L[3]? = some (.int .i64 most)) (h4 : L[4]? = some (.int .i64 wo)) (h5 : L[5]? = some (.pointer (some ⟨N, 0, none⟩))) (h7 : L[7]? = some (.pointer (some ⟨N + 1, 0, none⟩))) (h10 : L[10]? = some (.int .i64 0)) (h11 : L[11]? = some (.pointer (some ⟨N + 1 + 1, 0, none⟩))) (h12 : L[12]? = some (.pointer (some ⟨N + 1 + 1 + 1, 0, none⟩))) (h13 : L[13]? = some (.pointer (some ⟨N + 1 + 1 + 1 + 1 + 1, 0, none⟩))) (h14 : L[14]? = some (.pointer (some ⟨pat, 0, none⟩))) (h43 : L[43]? = some (.agg #[.int .i64 s.1, .bool s.2])) (h44 : L[44]? = some (.int .i64 nx)) : ∃ z, L = fr91b nb u t N most wo pat s nx z := by
  refine ⟨fun i => L.getD i undef, ?_⟩
  unfold fr91b
  have e := list_range L 127 hL
  have e0 : L.getD 0 undef = .pointer (some ⟨nb, 0, none⟩) := by rw [List.getD_eq_getElem?_getD, h0]; rfl
  have e1 : L.getD 1 undef = .int .i64 u := by rw [List.getD_eq_getElem?_getD, h1]; rfl
  have e2 : L.getD 2 undef = .int .i64 t := by rw [List.getD_eq_getElem?_getD, h2]; rfl
  have e3 : L.getD 3 undef = .int .i64 most := by rw [List.getD_eq_getElem?_getD, h3]; rfl
  have e4 : L.getD 4 undef = .int .i64 wo := by rw [List.getD_eq_getElem?_getD, h4]; rfl
  have e5 : L.getD 5 undef = .pointer (some ⟨N, 0, none⟩) := by rw [List.getD_eq_getElem?_getD, h5]; rfl
  have e7 : L.getD 7 undef = .pointer (some ⟨N + 1, 0, none⟩) := by rw [List.getD_eq_getElem?_getD, h7]; rfl
  have e10 : L.getD 10 undef = .int .i64 0 := by rw [List.getD_eq_getElem?_getD, h10]; rfl
  have e11 : L.getD 11 undef = .pointer (some ⟨N + 1 + 1, 0, none⟩) := by rw [List.getD_eq_getElem?_getD, h11]; rfl
  have e12 : L.getD 12 undef = .pointer (some ⟨N + 1 + 1 + 1, 0, none⟩) := by rw [List.getD_eq_getElem?_getD, h12]; rfl
  have e13 : L.getD 13 undef = .pointer (some ⟨N + 1 + 1 + 1 + 1 + 1, 0, none⟩) := by rw [List.getD_eq_getElem?_getD, h13]; rfl
  have e14 : L.getD 14 undef = .pointer (some ⟨pat, 0, none⟩) := by rw [List.getD_eq_getElem?_getD, h14]; rfl
  have e43 : L.getD 43 undef = .agg #[.int .i64 s.1, .bool s.2] := by rw [List.getD_eq_getElem?_getD, h43]; rfl
  have e44 : L.getD 44 undef = .int .i64 nx := by rw [List.getD_eq_getElem?_getD, h44]; rfl
  rw [← e0, ← e1, ← e2, ← e3, ← e4, ← e5, ← e7, ← e10, ← e11, ← e12, ← e13, ← e14, ← e43, ← e44]
  exact e
def ints (l : List Nat) : List Value := l.map fun n : Nat => .int .i64 n
structure Srch (w : World) (N B nb : Nat) (v : Value) (l : List Ac) (tk pl u t : Nat) (wo : Int) (W : World) (g : Nat) (rc : List Bool) (byL : List St) (bkL dn qu : List Nat) (vq : Value) : Prop where
  mem : BfsW w W N B nb v l tk pl t rc (byL.flatMap encS) (ints bkL) vq g qu
  bfs : Bfs l wo u rc byL bkL (dn ++ qu)
  clo : ∀ a ∈ dn, ∀ y ∈ stepsTo l a wo l.length, y.2 ∈ dn ++ qu
def InR (w : World) (N B nb : Nat) (v : Value) (l : List Ac) (tk pl u t : Nat) (wo : Int) (p pat : Nat) (Ds : List Nat) (dn : List Nat) (a : Nat) (pre : List (Sty l a wo)) (W : World) : Prop :=
  ∃ g rc byL bkL qu vq, BfsW w W N B nb v l tk pl t rc (byL.flatMap encS) (ints bkL) vq g qu ∧ Bfs l wo u rc byL bkL (dn ++ a :: qu) ∧ (∀ b ∈ dn, ∀ y ∈ stepsTo l b wo l.length, y.2 ∈ dn ++ a :: qu) ∧
    ItR W p B nb v l a wo ∧ Box W pat 3 [.int .i64 a] ∧ N + 1 + 1 + 1 + 1 + 1 < pat ∧ N + 1 + 1 + 1 + 1 + 1 < p ∧ g ≠ pat ∧ g ≠ p ∧ g ≠ p + 1 ∧ g ≠ p + 1 + 1 ∧ t ∉ dn ++ a :: qu ∧ (∀ y ∈ pre, y.1.2 ∈ dn ++ a :: qu) ∧ MarksIn W Ds
def OutR (w : World) (N B nb : Nat) (v : Value) (l : List Ac) (tk pl u t : Nat) (wo : Int) (Ds : List Nat) (c : Code) (W : World) : Prop :=
  c = .exit 0 ∧ ∃ g rc byL bkL ord qu vq, BfsW w W N B nb v l tk pl t rc (byL.flatMap encS) (ints bkL) vq g qu ∧ Bfs l wo u rc byL bkL ord ∧ t ∈ ord ∧ MarksIn W Ds
theorem InR.ownFrom (w : World) (N B nb : Nat) (v : Value) (l : List Ac) (tk pl u t : Nat) (wo : Int) (p pat : Nat) (Ds : List Nat) (dn : List Nat) (a : Nat) (B0 : Nat) (hB : w.heap.size ≤ B0) (hD : ∀ D ∈ Ds, D < B0) :
    OwnFrom B0 (InR w N B nb v l tk pl u t wo p pat Ds dn a) := by
  rintro pre W W' row ⟨g, rc, byL, bkL, qu, vq, h1, h2, h3, h4, h5, h6, h7, h8, h9, h10, h11, h12, h13, h14⟩ hg hr
  have hn : NoCells W row := fun r e => (hr r e).2
  exact ⟨g, rc, byL, bkL, qu, vq, h1.noCells hg hn (fun k e => by have := (hr k e).1; omega), h2, h3, h4.step hg hn, h5.grown hg (hn.box h5), h6, h7, h8, h9, h10, h11, h12, h13,
    fun D hD' => (hg.block D (Array.getElem?_eq_some_iff.1 (h14 D hD')).1 (fun e => by have := (hr D e.symm).1; have := hD D hD'; omega)).trans (h14 D hD')⟩
theorem OutR.ownFrom (w : World) (N B nb : Nat) (v : Value) (l : List Ac) (tk pl u t : Nat) (wo : Int) (Ds : List Nat) (c : Code) (B0 : Nat) (hB : w.heap.size ≤ B0) (hD : ∀ D ∈ Ds, D < B0) {α : Type} :
    OwnFrom B0 (fun (_ : α) W => OutR w N B nb v l tk pl u t wo Ds c W) := by
  rintro _ W W' row ⟨hc, g, rc, byL, bkL, ord, qu, vq, h1, h2, h3, h14⟩ hg hr
  have hn : NoCells W row := fun r e => (hr r e).2
  exact ⟨hc, g, rc, byL, bkL, ord, qu, vq, h1.noCells hg hn (fun k e => by have := (hr k e).1; omega), h2, h3,
    fun D hD' => (hg.block D (Array.getElem?_eq_some_iff.1 (h14 D hD')).1 (fun e => by have := (hr D e.symm).1; have := hD D hD'; omega)).trans (h14 D hD')⟩
theorem by_set (byL : List St) (x : Nat) (s : St) (hx : x < byL.length) : ((byL.flatMap encS).set (x * 2) (.int .i64 s.1)).set (x * 2 + 1) (.bool s.2) = (byL.set x s).flatMap encS := by
  have h1 := flat_set encS_len byL x hx 0 (by omega) (.int .i64 s.1) (s.1, byL[x].2) rfl
  rw [Nat.add_zero] at h1
  rw [h1]
  have h2 := flat_set encS_len (byL.set x (s.1, byL[x].2)) x (by simpa using hx) 1 (by omega) (.bool s.2) s (by simp [encS])
  rw [h2]; simp
theorem ints_set (bkL : List Nat) (x k : Nat) : (ints bkL).set x (.int .i64 k) = ints (bkL.set x k) := by unfold ints; rw [List.map_set]
end Go.Proofs.YtflchbejjofppaaGreatDoor
/- Walks: the body of the range in a network's search. -/
namespace Go.Proofs.YtflchbejjofppaaGreatDoor
open Go Go.Proofs Go.RowKit Go.Shelf
attribute [local go_sem] Oper.semAt_some
set_option maxRecDepth 100000 in
set_option maxHeartbeats 1000000 in
theorem bdy91_walk (w : World) (N B nb : Nat) (v : Value) (l : List Ac) (tk pl u t : Nat) (wo most : Int) (hl : l.length ≤ 1000) (hE : Ends 36 l) (ht : t < 36) (p pat : Nat) (Ds dn : List Nat) (a : Nat) (B0 : Nat)
    (lp n : Nat) (pre : List (Sty l a wo)) (x : Sty l a wo) (W : World) (Bx : Nat) (z : Nat → Value) (hin : InR w N B nb v l tk pl u t wo p pat Ds dn a pre W) (hBx : Box W Bx 133 (encS x.1.1)) (hBx2 : N < Bx) :
    bdy91.wpIn (Fence.wide.inRound lp) n Tryz.prog (ownPostG B0 (KpS p B nb v l a wo) (InR w N B nb v l tk pl u t wo p pat Ds dn a) (fun c _ W => OutR w N B nb v l tk pl u t wo Ds c W) (pre ++ [x]) W)
      { tmps := (fr91c nb u t N most wo pat Bx x.1.2 z).toArray, defers := [] } W := by
  obtain ⟨g, rc, byL, bkL, qu, vq, h1, h2, h3, h4, h5, h6, h7, h8, h9, h10, h11, h12, h13, h14⟩ := hin
  obtain ⟨⟨s, nx⟩, hx⟩ := x
  have hnx := hx.ends hE
  have hmem := h2.mem nx hnx
  dsimp only at *
  have n36 := h2.n1
  have c5 := h1.b5.cell 0
  have cr : W.cell? ⟨nb, 3 + nx, none⟩ = some (.bool (rc.getD nx false)) := by
    rw [h1.net.box.cell, show 3 + nx = nx + 1 + 1 + 1 by omega]
    simp only [netCells, List.getElem?_cons_succ, List.getElem?_map, List.getD_eq_getElem?_getD]
    rw [List.getElem?_eq_getElem (by omega)]; rfl
  simp only [List.getElem?_cons_zero] at c5
  have HQ : ∀ Q : Exit → Act → World → Prop, Q = ownPostG B0 (KpS p B nb v l a wo) (InR w N B nb v l tk pl u t wo p pat Ds dn a) (fun c _ W => OutR w N B nb v l tk pl u t wo Ds c W) (pre ++ [⟨(s, nx), hx⟩]) W → bdy91.wpIn (Fence.wide.inRound lp) n Tryz.prog Q
      { tmps := (fr91c nb u t N most wo pat Bx nx z).toArray, defers := [] } W := by
    intro Q hQ
    have HQ := Lib.hid hQ
    clear hQ
    simp only [bdy91, rng91, rnd91, blk91, Tryz.f61, Option.getD, codeL, codeR, fr91c]
    cases hr : rc.getD nx false
    · rw [hr] at cr
      have HR := Lib.hid hr
      clear hr
      have HMEM := Lib.hid hmem
      clear hmem
      have H13 := Lib.hid h13
      have H12 := Lib.hid h12
      have H3 := Lib.hid h3
      have H14 := Lib.hid h14
      clear h13 h12 h3 h14
      have fr := h1.net.box.frozen
      have hn0 := h1.nlt
      gi_wp2
      clear c5 cr fr
      have h1' := h1.setRc (x := nx) (o := 3 + nx) rfl
      have hBx' := hBx.other (a := ⟨nb, 3 + nx, none⟩) (.bool true) (by dsimp only; omega)
      have h5' := h5.other (a := ⟨nb, 3 + nx, none⟩) (.bool true) (by dsimp only; omega)
      have hks : KeepsOthers W (W.setCell ⟨nb, 3 + nx, none⟩ (.bool true)) := KeepsOthers.setCell _ _ _
      have hit : ItR (W.setCell ⟨nb, 3 + nx, none⟩ (.bool true)) p B nb v l a wo := ⟨h4.b1.other _ (by dsimp only; omega), h4.b2.other _ (by dsimp only; omega), h4.b3.other _ (by dsimp only; omega), h1'.net.toA⟩
      generalize W.setCell ⟨nb, 3 + nx, none⟩ (.bool true) = W1 at *
      clear h1 hBx h5 h4
      have c5 := h1'.b5.cell 0
      have c7 := h1'.b7.cell 0
      have cx0 := hBx'.cell 0
      have cx1 := hBx'.cell 1
      have cp := h5'.cell 0
      have fby := h1'.byB.frozen
      have fbk := h1'.bkB.frozen
      have cby0 : W1.cell? ⟨N + 1 + 1, nx * 2, none⟩ = some (.int .i64 (byL.getD nx (0, false)).1) := by
        rw [h1'.byB.cell, ← Nat.add_zero (nx * 2), flat_get encS 2 encS_len byL nx (by rw [h2.n2]; omega) 0 (by omega)]
        simp [encS, List.getD_eq_getElem?_getD, List.getElem?_eq_getElem (show nx < byL.length by rw [h2.n2]; omega)]
      have cby1 : W1.cell? ⟨N + 1 + 1, nx * 2 + 1, none⟩ = some (.bool (byL.getD nx (0, false)).2) := by
        rw [h1'.byB.cell, flat_get encS 2 encS_len byL nx (by rw [h2.n2]; omega) 1 (by omega)]
        simp [encS, List.getD_eq_getElem?_getD, List.getElem?_eq_getElem (show nx < byL.length by rw [h2.n2]; omega)]
      have cbk : W1.cell? ⟨N + 1 + 1 + 1, nx, none⟩ = some (.int .i64 (bkL.getD nx 0 : Nat)) := by
        rw [h1'.bkB.cell]
        simp [ints, List.getD_eq_getElem?_getD, List.getElem?_eq_getElem (show nx < bkL.length by rw [h2.n3]; omega)]
      simp only [List.getElem?_cons_zero, List.getElem?_cons_succ, encS] at c5 c7 cx0 cx1 cp
      have ni : (0 : Int) ≤ (nx : Int) ∧ (nx : Int) < 36 := by omega
      obtain ⟨ni0, ni1⟩ := ni
      have hmx : Tryz.prog.follows .mixedOrders = true := by kernel_rfl
      refine wpIn_mono (Q := fun e a' w' => e = .normal ∧ (∃ z', a' = { tmps := (fr91c nb u t N most wo pat Bx nx z').toArray, defers := [] }) ∧
        w' = (((W1.setCell ⟨N + 1 + 1, nx * 2, none⟩ (.int .i64 s.1)).setCell ⟨N + 1 + 1, nx * 2 + 1, none⟩ (.bool s.2)).setCell ⟨N + 1 + 1 + 1, nx, none⟩ (.int .i64 a)).drew) ?_ ?_
      · gi_region_with_o (fail)
        all_goals
          refine ⟨rfl, ?_, rfl⟩
          apply fr91c_act <;> rfl
      rintro e a' w' ⟨rfl, ⟨z', rfl⟩, rfl⟩
      have h1'' := (((h1'.setBy (nx * 2) (.int .i64 s.1)).setBy (nx * 2 + 1) (.bool s.2)).setBk nx (.int .i64 a)).drew
      rw [by_set byL nx s (by rw [h2.n2]; omega), ints_set] at h1''
      have hks2 : KeepsOthers W1 (((W1.setCell ⟨N + 1 + 1, nx * 2, none⟩ (.int .i64 s.1)).setCell ⟨N + 1 + 1, nx * 2 + 1, none⟩ (.bool s.2)).setCell ⟨N + 1 + 1 + 1, nx, none⟩ (.int .i64 a)).drew :=
        (((KeepsOthers.setCell _ _ _).trans (KeepsOthers.setCell _ _ _)).trans (KeepsOthers.setCell _ _ _)).trans (KeepsOthers.drew _)
      have hoth : ∀ {b : Nat} {e : TypeId} {vs : List Value}, Box W1 b e vs → N + 1 + 1 + 1 < b → Box (((W1.setCell ⟨N + 1 + 1, nx * 2, none⟩ (.int .i64 s.1)).setCell ⟨N + 1 + 1, nx * 2 + 1, none⟩ (.bool s.2)).setCell ⟨N + 1 + 1 + 1, nx, none⟩ (.int .i64 a)).drew b e vs :=
        fun hb hlt => (((hb.other _ (by dsimp only; omega)).other _ (by dsimp only; omega)).other _ (by dsimp only; omega)).drew
      have hit2 : ItR (((W1.setCell ⟨N + 1 + 1, nx * 2, none⟩ (.int .i64 s.1)).setCell ⟨N + 1 + 1, nx * 2 + 1, none⟩ (.bool s.2)).setCell ⟨N + 1 + 1 + 1, nx, none⟩ (.int .i64 a)).drew p B nb v l a wo :=
        ⟨hoth hit.b1 (by omega), hoth hit.b2 (by omega), hoth hit.b3 (by omega), h1''.net.toA⟩
      have h52 := hoth h5' (by omega)
      clear hoth c5 c7 cx0 cx1 cp fby fbk cby0 cby1 cbk ni0 ni1 h1' hBx' h5' hit
      generalize World.drew _ = W2 at *
      have HMK := Lib.hid ((H14.out.keeps hks).keeps hks2)
      have HKS := Lib.hid (hks.trans hks2)
      have hnot : nx ∉ dn ++ a :: qu := fun h => by have := HMEM.out.2 h; rw [HR.out] at this; cases this
      have HB := Lib.hid (h2.visit (k := a) (x := nx) (s := s) (by simp) hnx hnot hx)
      clear hks hks2 h2 hnot H14
      have c7 := h1''.b7.cell 0
      simp only [List.getElem?_cons_zero] at c7
      simp only [Exit.then, fr91c]
      by_cases e : nx = t
      · have e1 : ((nx : Int) == (t : Int)) = true := beq_iff_eq.2 (by omega)
        have HE := Lib.hid e
        clear e
        gi_wp2
        rw [HQ.out]
        exact ⟨HKS.out.from _, rfl, g, _, _, _, _, qu, vq, h1'', HB.out, by rw [← HE.out]; simp, HMK.out⟩
      · have e1 : ((nx : Int) == (t : Int)) = false := beq_eq_false_iff_ne.2 (by omega)
        have HE := Lib.hid e
        clear e
        have cq := h1''.bq.cell 0
        have zq := h1''.bq.lt
        have hql : qu.length ≤ 1000000 := by have := HB.out.count; simp at this; omega
        have HQL := Lib.hid hql
        have hgz := h1''.gne
        simp only [List.getElem?_cons_zero] at cq
        have hT : Tryz.prog.underlying 26 = some (.slice 3) := Tryz.underlying26
        have hI : (Tryz.prog.info? 3).map (fun i => (i.zero, i.size, i.bytes)) = some (some (.int .i64 0), 1, 8) := by kernel_rfl
        have HT := Lib.hid hT
        clear hT
        have HI := Lib.hid hI
        clear hI
        gi_wp2_with (gi_at_builtin; refine wpListIn_append_qu HT.out HI.out (h1''.q.alloc _) (heap_alloc_new _ _) HQL.out rfl _ _ rfl rfl rfl ?_; intro v' W3 g' hq' hg' hgg; obtain ⟨off', cap', rfl, hcap'⟩ := hq'.form; have HQ' := Lib.hid hq'; clear hq' hcap'; have cq3 := ((h1''.bq.alloc (.cells #[.int .i64 nx] 3)).grown hg' (by intro e; cases e; exact hgz rfl)); have cq4 := cq3.cell 0; have cq5 := cq3.frozen; simp only [List.getElem?_cons_zero] at cq4)
        rw [HQ.out]
        have hgrow := (h1''.alloc (.cells #[.int .i64 nx] 3)).grow HQ'.out hg' hgg
        have hz3 := h52.lt
        have hz4 := hit2.b1.lt
        have hz5 := hit2.b2.lt
        have hz6 := hit2.b3.lt
        have hkept : ∀ {b : Nat} {e : TypeId} {vs : List Value} (u : Value), Box W2 b e vs → b ≠ g → N + 1 + 1 + 1 + 1 + 1 < b → Box (W3.setCell ⟨N + 1 + 1 + 1 + 1 + 1, 0, none⟩ u) b e vs := fun u hb hne hlt =>
          ((hb.alloc _).grown hg' (fun e => by cases e; exact hne rfl)).other _ (by dsimp only; omega)
        have hks3 := ((KeepsOthers.alloc W2 (.cells #[.int .i64 nx] 3)).trans (KeepsOthers.of_grownBy hg' (fun j o e ho => by
          cases e
          obtain ⟨_, _, cur, _, h2, _⟩ := h1''.q.alloc (.cells #[.int .i64 nx] 3)
          rw [h2] at ho; cases ho; rfl))).trans (KeepsOthers.setCell W3 ⟨N + 1 + 1 + 1 + 1 + 1, 0, none⟩ (.slice (some ⟨g', off', none⟩) (qu ++ [nx]).length cap'))
        simp only [World.size_alloc] at hgg
        have hit3 := (⟨hkept (.slice (some ⟨g', off', none⟩) (qu ++ [nx]).length cap') hit2.b1 (Ne.symm h9) (by omega), hkept _ hit2.b2 (Ne.symm h10) (by omega), hkept _ hit2.b3 (Ne.symm h11) (by omega), hgrow.net.toA⟩ : ItR _ p B nb v l a wo)
        have e2 : (qu ++ [nx]).length = qu.length + 1 := by simp
        rw [e2] at hks3 hit3 hgrow
        refine ⟨(HKS.out.trans hks3).from _, ⟨fun _ => hit3, (HKS.out.trans hks3).size⟩, g', _, _, _, qu ++ [nx], _, hgrow, ?_, ?_, hit3, hkept _ h52 (Ne.symm h8) h6, h6, h7, ?_, ?_, ?_, ?_, ?_, ?_, HMK.out.keeps hks3⟩
        · have := HB.out; rwa [List.append_assoc, List.cons_append] at this
        · intro b hb y hy
          have := H3.out b hb y hy
          rw [← List.cons_append, ← List.append_assoc]; exact List.mem_append_left _ this
        · rcases hgg with rfl | h
          · exact h8
          · omega
        · rcases hgg with rfl | h
          · exact h9
          · omega
        · rcases hgg with rfl | h
          · exact h10
          · omega
        · rcases hgg with rfl | h
          · exact h11
          · omega
        · intro h
          rw [← List.cons_append, ← List.append_assoc] at h
          rcases List.mem_append.1 h with h | h
          · exact H12.out h
          · exact HE.out (List.mem_singleton.1 h).symm
        · intro y hy
          rw [← List.cons_append, ← List.append_assoc]
          rcases List.mem_append.1 hy with hy | hy
          · exact List.mem_append_left _ (H13.out y hy)
          · obtain rfl : y = _ := by simpa using hy
            simp
    · rw [hr] at cr
      have HR := Lib.hid hr
      clear hr
      have HMEM := Lib.hid hmem
      clear hmem
      gi_wp2
      rw [HQ.out]
      refine ⟨KeepsFrom.refl _ _, ⟨id, Nat.le_refl _⟩, g, rc, byL, bkL, qu, vq, h1, h2, h3, h4, h5, h6, h7, h8, h9, h10, h11, h12, fun y hy => ?_, h14⟩
      rcases List.mem_append.1 hy with hy | hy
      · exact h13 y hy
      · obtain rfl : y = _ := by simpa using hy
        exact HMEM.out.1 HR.out
  exact HQ _ rfl
end Go.Proofs.YtflchbejjofppaaGreatDoor
/- Walks: the range over the steps from one node, in a network's search. -/
namespace Go.Proofs.YtflchbejjofppaaGreatDoor
open Go Go.Proofs Go.RowKit Go.Shelf
attribute [local go_sem] Oper.semAt_some
set_option maxRecDepth 100000 in
set_option maxHeartbeats 400000 in
theorem asg91_walk (N nb u t : Nat) (wo most : Int) (pat lp n : Nat) (s : St) (nx : Nat) (W : World) (z : Nat → Value) (K : Act → World → Prop)
    (hK : ∀ z', K { tmps := (fr91c nb u t N most wo pat W.heap.size nx z').toArray, defers := [] } (W.alloc (.cells #[.int .i64 s.1, .bool s.2] 133))) :
    asg91.wpIn (Fence.wide.inRound lp) n Tryz.prog (Exit.then K (fun _ _ _ => False)) { tmps := (fr91b nb u t N most wo pat s nx z).toArray, defers := [] } W := by
  have HK := Lib.hid hK
  clear hK
  have hx : ∀ A W', (∃ z', A = { tmps := (fr91c nb u t N most wo pat W.heap.size nx z').toArray, defers := [] }) → (W.alloc (.cells #[.int .i64 s.1, .bool s.2] 133)) = W' → K A W' := by
    rintro A W' ⟨z', rfl⟩ rfl; exact HK.out z'
  simp only [asg91, rng91, rnd91, blk91, Tryz.f61, Option.getD, codeL, codeR, fr91b]
  gi_wp2
  refine hx _ _ ?_ rfl
  apply fr91c_act <;> rfl
set_option maxRecDepth 100000 in
set_option maxHeartbeats 400000 in
theorem rng91_walk (w : World) (N B nb : Nat) (v : Value) (l : List Ac) (tk pl u t : Nat) (wo most : Int) (hl : l.length ≤ 1000) (hs : Small l 1000000000000) (hE : Ends 36 l) (ht : t < 36) (p pat : Nat) (Ds dn : List Nat) (a : Nat)
    (W : World) (z : Nat → Value) (hin : InR w N B nb v l tk pl u t wo p pat Ds dn a [] W) (h42 : z 42 = .func (.func 113) #[] #[.pointer (some ⟨p, 0, none⟩), .pointer (some ⟨p + 1, 0, none⟩), .pointer (some ⟨p + 1 + 1, 0, none⟩)])
    (hDs : ∀ D ∈ Ds, D < W.heap.size) (hW : w.heap.size ≤ W.heap.size) (Q : Exit → Act → World → Prop)
    (hdone : ∀ (D : Nat) (xs : List (Sty l a wo)) (W' : World), W.heap.size ≤ D → xs.map Subtype.val = stepsTo l a wo l.length → InR w N B nb v l tk pl u t wo p pat Ds dn a xs W' → W'.heap[D]? = some (.deferred (some [])) →
      Q .normal { tmps := (fr91a nb u t N most wo pat z).toArray, defers := marksOf (D :: Ds) } W')
    (hstop : ∀ (D : Nat) (W' : World), W.heap.size ≤ D → OutR w N B nb v l tk pl u t wo Ds (.exit 0) W' → W'.heap[D]? = some (.deferred (some [])) →
      Q (.exit 0) { tmps := (fr91a nb u t N most wo pat z).toArray, defers := marksOf (D :: Ds) } W') :
    rng91.wp Tryz.prog Q { tmps := (fr91a nb u t N most wo pat z).toArray, defers := marksOf Ds } W := by
  refine (wpIn_wide (n := 9)).1 ?_
  have hit : ItR W p B nb v l a wo := by obtain ⟨_, _, _, _, _, _, _, _, _, h, _⟩ := hin; exact h
  have e : rng91 = .rangeFunc (.tmp 42) #[43, 44] asg91 bdy91 := by rfl
  rw [e]
  refine wpIn_rangeFunc_ownH rfl (by omega) (gf := 113) (lb := #[.pointer (some ⟨p, 0, none⟩), .pointer (some ⟨p + 1, 0, none⟩), .pointer (some ⟨p + 1 + 1, 0, none⟩)]) h42 trivial (enters_of Tryz.func113 (by kernel_rfl) rfl)
    (steps_stops 8 (by omega) p B nb v l a wo hl hs W hit) KpS.t (fun W k o o' _ h ho _ => KpS.b W k o o' h ho) (Below.refl _ _) (fun _ => rfl)
    (InR w N B nb v l tk pl u t wo p pat Ds dn a) (fun c _ W => OutR w N B nb v l tk pl u t wo Ds c W) (InR.ownFrom w N B nb v l tk pl u t wo p pat Ds dn a _ hW hDs) (fun c => OutR.ownFrom w N B nb v l tk pl u t wo Ds c _ hW hDs) hin
    (fun x a' W => ∃ z' Bx, a' = { tmps := (fr91c nb u t N most wo pat Bx x.1.2 z').toArray, defers := [] } ∧ Box W Bx 133 (encS x.1.1) ∧ N < Bx)
    (fun x a' => by
      rintro _ A A' row ⟨z', Bx, h1, h2, h3⟩ hg hr
      exact ⟨z', Bx, h1, h2.grown hg (NoCells.box (fun r e => (hr r e).2) h2), h3⟩) ?_ ?_ ?_ ?_
  · intro lp pre x W1 K hI hK
    have ef : ((#[43, 44] : Array Tmp).zip (encSt x.1)).foldl (fun t (p, v) => t.setIfInBounds p v) (fr91a nb u t N most wo pat z).toArray = (((fr91a nb u t N most wo pat z).set 43 (.agg #[.int .i64 x.1.1.1, .bool x.1.1.2])).set 44 (.int .i64 x.1.2)).toArray := by
      simp [encSt]
    obtain ⟨z', hz'⟩ := fr91b_of nb u t N most wo pat x.1.1 x.1.2 (((fr91a nb u t N most wo pat z).set 43 (.agg #[.int .i64 x.1.1.1, .bool x.1.1.2])).set 44 (.int .i64 x.1.2))
      (by rfl) (by rfl) (by rfl) (by rfl) (by rfl) (by rfl) (by rfl) (by rfl) (by rfl) (by rfl) (by rfl) (by rfl) (by rfl) (by rfl) (by rfl)
    rw [ef, hz']
    refine asg91_walk N nb u t wo most pat lp _ x.1.1 x.1.2 W1 z' K fun z'' => ?_
    have hI' := hI
    obtain ⟨g, rc, byL, bkL, qu, vq, h1, h2, h3, h4, h5, h6, h7, h8, h9, h10, h11, h12, h13, h14⟩ := hI
    have hb : Below W1.heap.size W1 (W1.alloc (.cells #[.int .i64 x.1.1.1, .bool x.1.1.2] 133)) := (Below.refl _ _).alloc (Nat.le_refl _) _
    have hNlt := h1.b5.lt
    exact hK _ _ ((KeepsOthers.alloc _ _).from _) ⟨fun h => h.later hb, hb.size⟩ ⟨g, rc, byL, bkL, qu, vq, h1.alloc _, h2, h3, h4.later hb, h5.alloc _, h6, h7, h8, h9, h10, h11, h12, h13, h14.later hb⟩
      ⟨z'', W1.heap.size, rfl, Box.new W1 _ 133, hNlt⟩
  · rintro lp pre x a' W1 _ _ hI ⟨z', Bx, rfl, hBx, hBx2⟩ hlen
    exact bdy91_walk w N B nb v l tk pl u t wo most hl hE ht p pat Ds dn a W.heap.size lp _ pre x W1 Bx z' hI hBx hBx2
  · intro D xs W1 hD hS hI hK
    exact hdone D xs W1 hD hS hI hK
  · rintro D c pre W1 hD _ hO hK
    obtain rfl : c = .exit 0 := hO.1
    exact wpIn_exit (hstop D W1 hD hO hK)
end Go.Proofs.YtflchbejjofppaaGreatDoor
