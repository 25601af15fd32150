/- Lemmas on the way to the law PathBests (part 9): Uk Ul Um -/
import Derived.Test.YtahpdkkpnkhnhaaGreatDoorPathBestsP08
import Derived.Test.YtahpdkkpnkhnhaaGreatDoorLib19
import Derived.Deep.RegionLawGrows
import Derived.Maps.AppendAt
set_option linter.unusedVariables false
set_option linter.unusedSimpArgs false

/- Walks: the search for the best order: the call with one task more. -/
namespace Go.Proofs.YtahpdkkpnkhnhaaGreatDoor
open Go Go.Proofs Go.RowKit Go.Shelf
def frT (vo uv : Value) (qt qp ql qb qy nl nt k : Nat) (z : Nat → Value) : List Value := [vo, .pointer (some ⟨qt, 0, none⟩), .pointer (some ⟨qp, 0, none⟩), .pointer (some ⟨ql, 0, none⟩), .pointer (some ⟨qb, 0, none⟩), .pointer (some ⟨qy, 0, none⟩), undef, undef, undef, undef, undef, .int .i64 k, undef, z 13, vo, .int .i64 nl, uv, .int .i64 nt, .bool false, undef, undef, undef, undef, undef, undef, undef, undef, undef, undef, undef, undef, undef, undef, undef, undef, undef, undef, undef, undef, undef, undef, undef, undef, undef, undef, undef, undef, undef, undef, uv, .int .i64 nt, .int .i64 k, z 52, z 53, z 54, z 55, z 56, z 57, z 58, z 59, z 60, z 61, z 62, z 63, z 64, z 65, z 66, z 67, z 68, z 69, z 70, z 71]
theorem frT_of (vo uv : Value) (qt qp ql qb qy nl nt k : Nat) (L : List Value) (hL : L.length = 72) (h0 : L[0]? = some (vo)) (h1 : L[1]? = some (.pointer (some ⟨qt, 0, none⟩))) (h2 : L[2]? = some (.pointer (some ⟨qp, 0, none⟩))) (h3 : L[3]? = some (.pointer (some ⟨ql, 0, none⟩))) (h4 : L[4]? = some (.pointer (some ⟨qb, 0, none⟩))) (h5 : L[5]? = some (.pointer (some ⟨qy, 0, none⟩))) (h6 : L[6]? = some (undef)) (h7 : L[7]? = some (undef)) (h8 : L[8]? = some (undef)) (h9 : L[9]? = some (undef)) (h10 : L[10]? = some (undef)) (h11 : L[11]? = some (.int .i64 k)) (h12 : L[12]? = some (undef)) (h14 : L[14]? = some (vo)) (h15 : L[15]? = some (.int .i64 nl)) (h16 : L[16]? = some (uv)) (h17 : L[17]? = some (.int .i64 nt)) (h18 : L[18]? = some (.bool false)) (h19 : L[19]? = some (undef)) (h20 : L[20]? = some (undef)) (h21 : L[21]? = some (undef)) (h22 : L[22]? = some (undef)) (h23 : L[23]? = some (undef)) (h24 : L[24]? = some (undef)) (h25 : L[25]? = some (undef)) (h26 : L[26]? = some (undef)) (h27 : L[27]? = some (undef)) (h28 : L[28]? = some (undef)) (h29 : L[29]? = some (undef)) (h30 : L[30]? = some (undef)) (h31 : L[31]? = some (undef)) (h32 : L[32]? = some (undef)) (h33 : L[33]? = some (undef)) (h34 : L[34]? = some (undef)) (h35 : L[35]? = some (undef)) (h36 : L[36]? = some (undef)) (h37 : L[37]? = some (undef)) (h38 : L[38]? = some (undef)) (h39 : L[39]? = some (undef)) (h40 : L[40]? = some (undef)) (h41 : L[41]? = some (undef)) (h42 : L[42]? = some (undef)) (h43 : L[43]? = some (undef)) (h44 : L[44]? = some (undef)) (h45 : L[45]? = some (undef)) (h46 : L[46]? = some (undef)) (h47 : L[47]? = some (undef)) (h48 : L[48]? = some (undef)) (h49 : L[49]? = some (uv)) (h50 : L[50]? = some (.int .i64 nt)) (h51 : L[51]? = some (.int .i64 k)) : ∃ z, L = frT vo uv qt qp ql qb qy nl nt k z := by
  refine ⟨fun i => L.getD i undef, ?_⟩
  unfold frT
  have e := list_range L 72 hL
  have e0 : L.getD 0 undef = vo := by rw [List.getD_eq_getElem?_getD, h0]; rfl
  have e1 : L.getD 1 undef = .pointer (some ⟨qt, 0, none⟩) := by rw [List.getD_eq_getElem?_getD, h1]; rfl
  have e2 : L.getD 2 undef = .pointer (some ⟨qp, 0, none⟩) := by rw [List.getD_eq_getElem?_getD, h2]; rfl
  have e3 : L.getD 3 undef = .pointer (some ⟨ql, 0, none⟩) := by rw [List.getD_eq_getElem?_getD, h3]; rfl
  have e4 : L.getD 4 undef = .pointer (some ⟨qb, 0, none⟩) := by rw [List.getD_eq_getElem?_getD, h4]; rfl
  have e5 : L.getD 5 undef = .pointer (some ⟨qy, 0, none⟩) := by rw [List.getD_eq_getElem?_getD, h5]; rfl
  have e6 : L.getD 6 undef = undef := by rw [List.getD_eq_getElem?_getD, h6]; rfl
  have e7 : L.getD 7 undef = undef := by rw [List.getD_eq_getElem?_getD, h7]; rfl
  have e8 : L.getD 8 undef = undef := by rw [List.getD_eq_getElem?_getD, h8]; rfl
  have e9 : L.getD 9 undef = undef := by rw [List.getD_eq_getElem?_getD, h9]; rfl
  have e10 : L.getD 10 undef = undef := by rw [List.getD_eq_getElem?_getD, h10]; rfl
  have e11 : L.getD 11 undef = .int .i64 k := by rw [List.getD_eq_getElem?_getD, h11]; rfl
  have e12 : L.getD 12 undef = undef := by rw [List.getD_eq_getElem?_getD, h12]; rfl
  have e14 : L.getD 14 undef = vo := by rw [List.getD_eq_getElem?_getD, h14]; rfl
  have e15 : L.getD 15 undef = .int .i64 nl := by rw [List.getD_eq_getElem?_getD, h15]; rfl
  have e16 : L.getD 16 undef = uv := by rw [List.getD_eq_getElem?_getD, h16]; rfl
  have e17 : L.getD 17 undef = .int .i64 nt := by rw [List.getD_eq_getElem?_getD, h17]; rfl
  have e18 : L.getD 18 undef = .bool false := by rw [List.getD_eq_getElem?_getD, h18]; rfl
  have e19 : L.getD 19 undef = undef := by rw [List.getD_eq_getElem?_getD, h19]; rfl
  have e20 : L.getD 20 undef = undef := by rw [List.getD_eq_getElem?_getD, h20]; rfl
  have e21 : L.getD 21 undef = undef := by rw [List.getD_eq_getElem?_getD, h21]; rfl
  have e22 : L.getD 22 undef = undef := by rw [List.getD_eq_getElem?_getD, h22]; rfl
  have e23 : L.getD 23 undef = undef := by rw [List.getD_eq_getElem?_getD, h23]; rfl
  have e24 : L.getD 24 undef = undef := by rw [List.getD_eq_getElem?_getD, h24]; rfl
  have e25 : L.getD 25 undef = undef := by rw [List.getD_eq_getElem?_getD, h25]; rfl
  have e26 : L.getD 26 undef = undef := by rw [List.getD_eq_getElem?_getD, h26]; rfl
  have e27 : L.getD 27 undef = undef := by rw [List.getD_eq_getElem?_getD, h27]; rfl
  have e28 : L.getD 28 undef = undef := by rw [List.getD_eq_getElem?_getD, h28]; rfl
  have e29 : L.getD 29 undef = undef := by rw [List.getD_eq_getElem?_getD, h29]; rfl
  have e30 : L.getD 30 undef = undef := by rw [List.getD_eq_getElem?_getD, h30]; rfl
  have e31 : L.getD 31 undef = undef := by rw [List.getD_eq_getElem?_getD, h31]; rfl
  have e32 : L.getD 32 undef = undef := by rw [List.getD_eq_getElem?_getD, h32]; rfl
  have e33 : L.getD 33 undef = undef := by rw [List.getD_eq_getElem?_getD, h33]; rfl
  have e34 : L.getD 34 undef = undef := by rw [List.getD_eq_getElem?_getD, h34]; rfl
  have e35 : L.getD 35 undef = undef := by rw [List.getD_eq_getElem?_getD, h35]; rfl
  have e36 : L.getD 36 undef = undef := by rw [List.getD_eq_getElem?_getD, h36]; rfl
  have e37 : L.getD 37 undef = undef := by rw [List.getD_eq_getElem?_getD, h37]; rfl
  have e38 : L.getD 38 undef = undef := by rw [List.getD_eq_getElem?_getD, h38]; rfl
  have e39 : L.getD 39 undef = undef := by rw [List.getD_eq_getElem?_getD, h39]; rfl
  have e40 : L.getD 40 undef = undef := by rw [List.getD_eq_getElem?_getD, h40]; rfl
  have e41 : L.getD 41 undef = undef := by rw [List.getD_eq_getElem?_getD, h41]; rfl
  have e42 : L.getD 42 undef = undef := by rw [List.getD_eq_getElem?_getD, h42]; rfl
  have e43 : L.getD 43 undef = undef := by rw [List.getD_eq_getElem?_getD, h43]; rfl
  have e44 : L.getD 44 undef = undef := by rw [List.getD_eq_getElem?_getD, h44]; rfl
  have e45 : L.getD 45 undef = undef := by rw [List.getD_eq_getElem?_getD, h45]; rfl
  have e46 : L.getD 46 undef = undef := by rw [List.getD_eq_getElem?_getD, h46]; rfl
  have e47 : L.getD 47 undef = undef := by rw [List.getD_eq_getElem?_getD, h47]; rfl
  have e48 : L.getD 48 undef = undef := by rw [List.getD_eq_getElem?_getD, h48]; rfl
  have e49 : L.getD 49 undef = uv := by rw [List.getD_eq_getElem?_getD, h49]; rfl
  have e50 : L.getD 50 undef = .int .i64 nt := by rw [List.getD_eq_getElem?_getD, h50]; rfl
  have e51 : L.getD 51 undef = .int .i64 k := by rw [List.getD_eq_getElem?_getD, h51]; rfl
  have e' : L = L.getD 0 undef :: L.getD 1 undef :: L.getD 2 undef :: L.getD 3 undef :: L.getD 4 undef :: L.getD 5 undef :: L.getD 6 undef :: L.getD 7 undef :: L.getD 8 undef :: L.getD 9 undef :: L.getD 10 undef :: L.getD 11 undef :: L.getD 12 undef :: L.getD 13 undef :: L.getD 14 undef :: L.getD 15 undef :: L.getD 16 undef :: L.getD 17 undef :: L.getD 18 undef :: L.getD 19 undef :: L.getD 20 undef :: L.getD 21 undef :: L.getD 22 undef :: L.getD 23 undef :: L.getD 24 undef :: L.getD 25 undef :: L.getD 26 undef :: L.getD 27 undef :: L.getD 28 undef :: L.getD 29 undef :: L.getD 30 undef :: L.getD 31 undef :: L.getD 32 undef :: L.getD 33 undef :: L.getD 34 undef :: L.getD 35 undef :: L.getD 36 undef :: L.getD 37 undef :: L.getD 38 undef :: L.getD 39 undef :: L.getD 40 undef :: L.getD 41 undef :: L.getD 42 undef :: L.getD 43 undef :: L.getD 44 undef :: L.getD 45 undef :: L.getD 46 undef :: L.getD 47 undef :: L.getD 48 undef :: L.getD 49 undef :: L.getD 50 undef :: L.getD 51 undef :: L.getD 52 undef :: L.getD 53 undef :: L.getD 54 undef :: L.getD 55 undef :: L.getD 56 undef :: L.getD 57 undef :: L.getD 58 undef :: L.getD 59 undef :: L.getD 60 undef :: L.getD 61 undef :: L.getD 62 undef :: L.getD 63 undef :: L.getD 64 undef :: L.getD 65 undef :: L.getD 66 undef :: L.getD 67 undef :: L.getD 68 undef :: L.getD 69 undef :: L.getD 70 undef :: L.getD 71 undef :: [] := e
  rw [e0, e1, e2, e3, e4, e5, e6, e7, e8, e9, e10, e11, e12, e14, e15, e16, e17, e18, e19, e20, e21, e22, e23, e24, e25, e26, e27, e28, e29, e30, e31, e32, e33, e34, e35, e36, e37, e38, e39, e40, e41, e42, e43, e44, e45, e46, e47, e48, e49, e50, e51] at e'
  exact e'
theorem frT_act (vo uv : Value) (qt qp ql qb qy nl nt k : Nat) (A : Act) (ds : List Deferred) (hds : A.defers = ds) (hL : A.tmps.size = 72) (h0 : A.tmps[0]? = some (vo)) (h1 : A.tmps[1]? = some (.pointer (some ⟨qt, 0, none⟩))) (h2 : A.tmps[2]? = some (.pointer (some ⟨qp, 0, none⟩))) (h3 : A.tmps[3]? = some (.pointer (some ⟨ql, 0, none⟩))) (h4 : A.tmps[4]? = some (.pointer (some ⟨qb, 0, none⟩))) (h5 : A.tmps[5]? = some (.pointer (some ⟨qy, 0, none⟩))) (h6 : A.tmps[6]? = some (undef)) (h7 : A.tmps[7]? = some (undef)) (h8 : A.tmps[8]? = some (undef)) (h9 : A.tmps[9]? = some (undef)) (h10 : A.tmps[10]? = some (undef)) (h11 : A.tmps[11]? = some (.int .i64 k)) (h12 : A.tmps[12]? = some (undef)) (h14 : A.tmps[14]? = some (vo)) (h15 : A.tmps[15]? = some (.int .i64 nl)) (h16 : A.tmps[16]? = some (uv)) (h17 : A.tmps[17]? = some (.int .i64 nt)) (h18 : A.tmps[18]? = some (.bool false)) (h19 : A.tmps[19]? = some (undef)) (h20 : A.tmps[20]? = some (undef)) (h21 : A.tmps[21]? = some (undef)) (h22 : A.tmps[22]? = some (undef)) (h23 : A.tmps[23]? = some (undef)) (h24 : A.tmps[24]? = some (undef)) (h25 : A.tmps[25]? = some (undef)) (h26 : A.tmps[26]? = some (undef)) (h27 : A.tmps[27]? = some (undef)) (h28 : A.tmps[28]? = some (undef)) (h29 : A.tmps[29]? = some (undef)) (h30 : A.tmps[30]? = some (undef)) (h31 : A.tmps[31]? = some (undef)) (h32 : A.tmps[32]? = some (undef)) (h33 : A.tmps[33]? = some (undef)) (h34 : A.tmps[34]? = some (undef)) (h35 : A.tmps[35]? = some (undef)) (h36 : A.tmps[36]? = some (undef)) (h37 : A.tmps[37]? = some (undef)) (h38 : A.tmps[38]? = some (undef)) (h39 : A.tmps[39]? = some (undef)) (h40 : A.tmps[40]? = some (undef)) (h41 : A.tmps[41]? = some (undef)) (h42 : A.tmps[42]? = some (undef)) (h43 : A.tmps[43]? = some (undef)) (h44 : A.tmps[44]? = some (undef)) (h45 : A.tmps[45]? = some (undef)) (h46 : A.tmps[46]? = some (undef)) (h47 : A.tmps[47]? = some (undef)) (h48 : A.tmps[48]? = some (undef)) (h49 : A.tmps[49]? = some (uv)) (h50 : A.tmps[50]? = some (.int .i64 nt)) (h51 : A.tmps[51]? = some (.int .i64 k)) : ∃ z, A = { tmps := (frT vo uv qt qp ql qb qy nl nt k z).toArray, defers := ds } := by
  obtain ⟨z, e⟩ := frT_of vo uv qt qp ql qb qy nl nt k A.tmps.toList (by rw [Array.length_toList]; exact hL) (by rw [Array.getElem?_toList]; exact h0) (by rw [Array.getElem?_toList]; exact h1) (by rw [Array.getElem?_toList]; exact h2) (by rw [Array.getElem?_toList]; exact h3) (by rw [Array.getElem?_toList]; exact h4) (by rw [Array.getElem?_toList]; exact h5) (by rw [Array.getElem?_toList]; exact h6) (by rw [Array.getElem?_toList]; exact h7) (by rw [Array.getElem?_toList]; exact h8) (by rw [Array.getElem?_toList]; exact h9) (by rw [Array.getElem?_toList]; exact h10) (by rw [Array.getElem?_toList]; exact h11) (by rw [Array.getElem?_toList]; exact h12) (by rw [Array.getElem?_toList]; exact h14) (by rw [Array.getElem?_toList]; exact h15) (by rw [Array.getElem?_toList]; exact h16) (by rw [Array.getElem?_toList]; exact h17) (by rw [Array.getElem?_toList]; exact h18) (by rw [Array.getElem?_toList]; exact h19) (by rw [Array.getElem?_toList]; exact h20) (by rw [Array.getElem?_toList]; exact h21) (by rw [Array.getElem?_toList]; exact h22) (by rw [Array.getElem?_toList]; exact h23) (by rw [Array.getElem?_toList]; exact h24) (by rw [Array.getElem?_toList]; exact h25) (by rw [Array.getElem?_toList]; exact h26) (by rw [Array.getElem?_toList]; exact h27) (by rw [Array.getElem?_toList]; exact h28) (by rw [Array.getElem?_toList]; exact h29) (by rw [Array.getElem?_toList]; exact h30) (by rw [Array.getElem?_toList]; exact h31) (by rw [Array.getElem?_toList]; exact h32) (by rw [Array.getElem?_toList]; exact h33) (by rw [Array.getElem?_toList]; exact h34) (by rw [Array.getElem?_toList]; exact h35) (by rw [Array.getElem?_toList]; exact h36) (by rw [Array.getElem?_toList]; exact h37) (by rw [Array.getElem?_toList]; exact h38) (by rw [Array.getElem?_toList]; exact h39) (by rw [Array.getElem?_toList]; exact h40) (by rw [Array.getElem?_toList]; exact h41) (by rw [Array.getElem?_toList]; exact h42) (by rw [Array.getElem?_toList]; exact h43) (by rw [Array.getElem?_toList]; exact h44) (by rw [Array.getElem?_toList]; exact h45) (by rw [Array.getElem?_toList]; exact h46) (by rw [Array.getElem?_toList]; exact h47) (by rw [Array.getElem?_toList]; exact h48) (by rw [Array.getElem?_toList]; exact h49) (by rw [Array.getElem?_toList]; exact h50) (by rw [Array.getElem?_toList]; exact h51)
  exact ⟨z, by cases A; subst hds; dsimp only at e ⊢; rw [← e]⟩
noncomputable def r18_128 : Code := codeR (codeR (codeL (codeL (codeR (codeR (codeL (codeL (codeR (codeR (codeR (codeL (Tryz.f128.body.getD .skip))))))))))))
set_option maxRecDepth 100000 in
set_option maxHeartbeats 4000000 in
theorem r18_walk (W : World) (ao : Option Addr) (nl co : Nat) (l : List Int) (uv : Value) (qt qp ql qb qy nt k : Nat) (D : World → Prop) (hs : Sl encI 1 W W.heap.size (.slice ao nl co) l) (hnl : l.length = nl) (hn0 : ao = none → co = 0) (hn16 : nl ≤ 1000)
    (hy : Box W qy 122 [.func (.func 128) #[] #[.pointer (some ⟨qt, 0, none⟩), .pointer (some ⟨qp, 0, none⟩), .pointer (some ⟨ql, 0, none⟩), .pointer (some ⟨qb, 0, none⟩), .pointer (some ⟨qy, 0, none⟩)]])
    (hcall : ∀ w1 v, Below W.heap.size W w1 → Own encI 1 3 w1 W.heap.size v (l ++ [(k : Int)]) → Calls Tryz.prog 128 #[v, .pointer (some ⟨qt, 0, none⟩), .pointer (some ⟨qp, 0, none⟩), .pointer (some ⟨ql, 0, none⟩), .pointer (some ⟨qb, 0, none⟩), .pointer (some ⟨qy, 0, none⟩)] w1 fun e w' => e = .returned (.tuple #[]) ∧ D w')
    (z : Nat → Value) (Q : Exit → Act → World → Prop)
    (hQ : ∀ z' W', D W' → Q .normal { tmps := (frT (.slice ao nl co) uv qt qp ql qb qy nl nt k z').toArray, defers := [] } W') :
    r18_128.wp Tryz.prog Q { tmps := (frT (.slice ao nl co) uv qt qp ql qb qy nl nt k z).toArray, defers := [] } W := by
  have HQ : Hid (∀ A W', (∃ z', A = { tmps := (frT (.slice ao nl co) uv qt qp ql qb qy nl nt k z').toArray, defers := [] }) → D W' → Q .normal A W') := Lib.hid (by rintro A W' ⟨z', rfl⟩ hb; exact hQ z' W' hb)
  obtain ⟨i, hi, hz, hsz, hby⟩ := info_parts infoI
  have HI := Lib.hid (show Tryz.prog.info? 3 = some i ∧ i.zero = some (.int .i64 0) ∧ i.size = 1 ∧ i.bytes = 8 from ⟨hi, hz, hsz, hby⟩)
  obtain ⟨a', c', e, ⟨hl1, hl2⟩, hA⟩ := hs
  rw [hnl] at e hl2
  cases e
  have HAT : Hid (∀ b, ao = some b → ∀ j u, (l.flatMap encI)[j]? = some u → ∀ w1, Below W.heap.size W w1 → w1.cell? (b.add j) = some u) := Lib.hid (fun b hb j u hu w1 hw => by
    have hj : j < l.length := by
      have := (List.getElem?_eq_some_iff.1 hu).1
      rwa [flat_length encI 1 encI_len, Nat.mul_one] at this
    obtain ⟨b0, off, e, hbb, hc⟩ := hA (by omega)
    rw [hb] at e
    cases e
    have h := ((hc j hj).below hw hbb) 0 u (by
      have := flat_get encI 1 encI_len l j hj 0 (by omega)
      rw [Nat.mul_one, Nat.add_zero] at this
      rw [← this]; exact hu)
    rw [Addr.add_lit]
    simpa using h)
  have HFL := Lib.hid (show (l.flatMap encI).length = nl * 1 by rw [flat_length encI 1 encI_len, hnl])
  have HN0 := Lib.hid (show ao = none → nl = 0 ∧ nl = 0 from fun h => by have := hn0 h; omega)
  have HN1 := Lib.hid (show ao = none → nl = 0 ∧ co = 0 from fun h => by have := hn0 h; omega)
  have HOW := Lib.hid (fun (w1 w2 : World) (v : Value) (ho : w2.ownsRow w1.heap.size 3 1 v (nl + 1) (l.flatMap encI ++ [.int .i64 (k : Int)])) (hb : Below W.heap.size W w1) => show Own encI 1 3 w2 W.heap.size v (l ++ [(k : Int)]) from by
    refine Own.lower (base := w1.heap.size) ?_ hb.size
    show w2.ownsRow w1.heap.size 3 1 v (l ++ [(k : Int)]).length ((l ++ [(k : Int)]).flatMap encI)
    rw [List.length_append, hnl, List.flatMap_append]
    exact ho)
  have HC := Lib.hid hcall
  have HLC := Lib.hid hl2
  have y0 := hy.cell 0
  have yz := hy.lt
  simp only [List.getElem?_cons_zero] at y0
  have HT : Hid (Tryz.prog.underlying 26 = some (.slice 3)) := Lib.hid Tryz.underlying26
  have K130 := Lib.hid (fun w1 => clip130 w1 ao nl co HLC.out HN1.out (by omega))
  clear hQ hA hcall hn0 hnl hi hz hsz hby hl1 hl2 hy
  simp only [r18_128, Tryz.f128, Option.getD, codeL, codeR, frT]
  refine wp_region_noPanic ?_
  go_region_law (first
    | (go_simp; refine (K130.out _).mono ?_; rintro e w5 ⟨rfl, rfl⟩; dsimp only)
    | (go_simp; refine (HC.out _ _ HBW.out HO.out).mono ?_; rintro e w5 ⟨rfl, hd⟩; dsimp only)
    | (refine step_append_grows rfl (.tmp 66) (.tmp 68) 26 rfl 3 i (.int .i64 0) 1 8 HT.out HI.out.1 HI.out.2.1 HI.out.2.2.1 HI.out.2.2.2 rfl (by decide) ao nl nl (l.flatMap encI) rfl HN0.out HFL.out (fun b hb j u hu => HAT.out b hb j u hu _ (by repeat (first | exact Below.refl _ _ | refine Below.alloc ?_ (by simp) _ | refine Below.drew ?_))) ⟨W.heap.size, 0, none⟩ 1 1 [.int .i64 (k : Int)] rfl rfl (fun j u hu => by first | exact cell_one_new W _ _ j u hu | exact cell_one_new W.drew _ _ j u hu | exact cell_one_new W.drew.drew _ _ j u hu) (fun x hx => by simp at hx; subst hx; rfl) (by omega) (by unfold maxLen; omega) (by omega) ?_; intro v' w' hown hgr; have HO := Lib.hid (HOW.out _ _ _ hown (by repeat (first | exact Below.refl _ _ | refine Below.alloc ?_ (by simp) _ | refine Below.drew ?_))); have HBW := Lib.hid (Below.grown (a := W) (B := W.heap.size) (by repeat (first | exact Below.refl _ _ | refine Below.alloc ?_ (by simp) _ | refine Below.drew ?_)) hgr (by first | exact Nat.le_refl _ | (simp; done) | (simp; omega)) (by simp)); have y1 := (HBW.out.cell (p := ⟨qy, 0, none⟩) yz).trans y0; have yz1 := Nat.lt_of_lt_of_le yz HBW.out.size; clear hown hgr))
  all_goals
    refine NoPanic.normal ?_
    refine HQ.out _ _ ?_ hd
    apply frT_act <;> rfl
end Go.Proofs.YtahpdkkpnkhnhaaGreatDoor
/- Walks: the search for the best order of tasks: all orders that begin with one. -/
namespace Go.Proofs.YtahpdkkpnkhnhaaGreatDoor
open Go Go.Proofs Go.RowKit Go.Shelf
def kidsK (n : Nat) (l : List Int) (k : Nat) : List (List Int) := (((numsI n).take k).filter fun x => !l.contains x).map fun x => l ++ [x]
theorem kidsK_all (n : Nat) (l : List Int) : kidsK n l n = kidsO n l := by
  unfold kidsK kidsO
  rw [List.take_of_length_le (by rw [numsI_len]; exact Nat.le_refl _)]
theorem kidsK_step {n : Nat} {l : List Int} {k : Nat} (h : k < n) : kidsK n l (k + 1) = if l.contains (k : Int) = true then kidsK n l k else kidsK n l k ++ [l ++ [(k : Int)]] := by
  unfold kidsK
  rw [List.take_succ_eq_append_getElem (by rw [numsI_len]; exact h), numsI_at n k h, List.filter_append, List.map_append]
  by_cases hc : l.contains (k : Int) = true
  · rw [if_pos hc]; simp only [List.filter_cons, hc]; simp
  · rw [if_neg hc]
    rw [Bool.not_eq_true] at hc
    simp only [List.filter_cons, hc]; simp
def trS (f : List Int → Int) (n r : Nat) (l : List Int) (s : List Int × Int) (k : Nat) : List Int × Int := (kidsK n l k).foldl (fun s l' => (extO n r l').foldl (updO f) s) s
theorem trS_all (f : List Int → Int) (n r : Nat) (l : List Int) (s : List Int × Int) : trS f n r l s n = (extO n (r + 1) l).foldl (updO f) s := by
  unfold trS
  rw [kidsK_all, fold_ext]
theorem trS_skip {f : List Int → Int} {n r : Nat} {l : List Int} {s : List Int × Int} {k : Nat} (h : k < n) (hc : l.contains (k : Int) = true) : trS f n r l s (k + 1) = trS f n r l s k := by
  unfold trS
  rw [kidsK_step h, if_pos hc]
theorem trS_step {f : List Int → Int} {n r : Nat} {l : List Int} {s : List Int × Int} {k : Nat} (h : k < n) (hc : l.contains (k : Int) = false) : trS f n r l s (k + 1) = (extO n r (l ++ [(k : Int)])).foldl (updO f) (trS f n r l s k) := by
  unfold trS
  rw [kidsK_step h, if_neg (by rw [hc]; simp), List.foldl_append]; rfl
theorem fold_bd {f : List Int → Int} {B : Int} : ∀ (L : List (List Int)) (s : List Int × Int), (∀ l ∈ L, 0 ≤ f l ∧ f l ≤ B) → -1 ≤ s.2 ∧ s.2 ≤ B → -1 ≤ (L.foldl (updO f) s).2 ∧ (L.foldl (updO f) s).2 ≤ B
  | [], _, _, h => h
  | l :: L, s, hL, h => by
    rw [List.foldl_cons]
    refine fold_bd L _ (fun x hx => hL x (by simp [hx])) ?_
    have h1 := hL l (by simp)
    unfold updO
    split
    · dsimp only; omega
    · exact h
theorem ext_ord {n : Nat} : ∀ (r : Nat) (l : List Int), OrdK n l.length l → l.length + r = n → ∀ l' ∈ extO n r l, OrdK n n l'
  | 0, l, h, e, l', hl => by
    have : l' = l := by simpa [extO] using hl
    subst this
    rw [Nat.add_zero] at e
    rw [e] at h
    exact h
  | r + 1, l, h, e, l', hl => by
    obtain ⟨m, h1, h2⟩ := List.mem_flatMap.1 (show l' ∈ (kidsO n l).flatMap (extO n r) from hl)
    have h3 := h.kid h1
    have h4 := h3.len
    exact ext_ord r m (by rw [h4]; exact h3) (by omega) l' h2
theorem trS_bd {p : Pl} {ts : List Tk} (hk : TsOk p ts) {r : Nat} {l : List Int} (hl : OrdK ts.length l.length l) (hr : l.length + (r + 1) = ts.length) {s : List Int × Int} (hb : -1 ≤ s.2 ∧ s.2 ≤ 1010000000) : ∀ k, k ≤ ts.length → -1 ≤ (trS (lenO p ts) ts.length r l s k).2 ∧ (trS (lenO p ts) ts.length r l s k).2 ≤ 1010000000
  | 0, _ => hb
  | k + 1, h => by
    have ih := trS_bd hk hl hr hb k (by omega)
    cases hc : l.contains (k : Int) with
    | true => rw [trS_skip h hc]; exact ih
    | false =>
      rw [trS_step h hc]
      have ho := hl.snoc (x := (k : Int)) ⟨by omega, by omega⟩ (by simpa using hc)
      refine fold_bd _ _ (fun l' hl' => lenF_nn (hk.ord (ext_ord r _ ?_ (by simp; omega) l' hl'))) ih
      rw [List.length_append, List.length_singleton]
      exact ho
theorem r18_walkA (W : World) (ao : Option Addr) (nl co : Nat) (l : List Int) (uv : Value) (qt qp ql qb qy nt k : Nat) (D : World → Prop) (hs : Sl encI 1 W W.heap.size (.slice ao nl co) l) (hnl : l.length = nl) (hn0 : ao = none → co = 0) (hn16 : nl ≤ 1000)
    (hy : Box W qy 122 [.func (.func 128) #[] #[.pointer (some ⟨qt, 0, none⟩), .pointer (some ⟨qp, 0, none⟩), .pointer (some ⟨ql, 0, none⟩), .pointer (some ⟨qb, 0, none⟩), .pointer (some ⟨qy, 0, none⟩)]])
    (hcall : ∀ w1 v, Below W.heap.size W w1 → Own encI 1 3 w1 W.heap.size v (l ++ [(k : Int)]) → Calls Tryz.prog 128 #[v, .pointer (some ⟨qt, 0, none⟩), .pointer (some ⟨qp, 0, none⟩), .pointer (some ⟨ql, 0, none⟩), .pointer (some ⟨qb, 0, none⟩), .pointer (some ⟨qy, 0, none⟩)] w1 fun e w' => e = .returned (.tuple #[]) ∧ D w')
    {a0 : Act} (ha : ∃ z, a0 = { tmps := (frT (.slice ao nl co) uv qt qp ql qb qy nl nt k z).toArray, defers := [] }) {Q : Exit → Act → World → Prop}
    (hQ : ∀ z' W', D W' → Q .normal { tmps := (frT (.slice ao nl co) uv qt qp ql qb qy nl nt k z').toArray, defers := [] } W') :
    r18_128.wp Tryz.prog Q a0 W := by
  obtain ⟨z, rfl⟩ := ha
  exact r18_walk W ao nl co l uv qt qp ql qb qy nt k D hs hnl hn0 hn16 hy hcall z Q hQ
set_option maxRecDepth 100000 in
set_option maxHeartbeats 2000000 in
theorem try128 (w : World) (qt qp ql qb qy : Nat) (u v1 v2 : Value) (p : Pl) (ts : List Tk) (hv : PlR w w.heap.size v1 v2 p) (hu : TasksR w w.heap.size u ts) (hk : TsOk p ts) : ∀ (r : Nat) (W : World) (vo : Value) (s : List Int × Int) (l : List Int),
    TrM w W qt qp ql qb qy u v1 v2 s → Sl encI 1 W W.heap.size vo l → AwayS vo ql qb → (∀ n c, vo = .slice none n c → c = 0) → OrdK ts.length l.length l → l.length + r = ts.length → -1 ≤ s.2 ∧ s.2 ≤ 1010000000 →
    Calls Tryz.prog 128 #[vo, .pointer (some ⟨qt, 0, none⟩), .pointer (some ⟨qp, 0, none⟩), .pointer (some ⟨ql, 0, none⟩), .pointer (some ⟨qb, 0, none⟩), .pointer (some ⟨qy, 0, none⟩)] W (TrP w W qt qp ql qb qy u v1 v2 ((extO ts.length r l).foldl (updO (lenO p ts)) s))
  | 0, W, vo, s, l, hm, hs, ha, hn, hl, hr, hb => by
    have e : l.length = ts.length := by omega
    rw [e] at hl
    exact tryEnd128 w W qt qp ql qb qy u v1 v2 vo p ts s l hv hu hk hm hs hl hb
  | r + 1, W, vo, s, l, hm, hs, ha, hn, hl, hr, hb => by
    have h16 := hk.n
    have IH := Lib.hid (fun (W1 : World) (k : Nat) (s1 : List Int × Int) (hm1 : TrM w W1 qt qp ql qb qy u v1 v2 s1) (hk1 : k < ts.length) (hc : l.contains (k : Int) = false) (hb1 : -1 ≤ s1.2 ∧ s1.2 ≤ 1010000000) (w1 : World) (v : Value) (hb : Below W1.heap.size W1 w1) (ho : Own encI 1 3 w1 W1.heap.size v (l ++ [(k : Int)])) =>
      show Calls Tryz.prog 128 #[v, .pointer (some ⟨qt, 0, none⟩), .pointer (some ⟨qp, 0, none⟩), .pointer (some ⟨ql, 0, none⟩), .pointer (some ⟨qb, 0, none⟩), .pointer (some ⟨qy, 0, none⟩)] w1 (fun e w' => e = .returned (.tuple #[]) ∧ (TrM w w' qt qp ql qb qy u v1 v2 ((extO ts.length r (l ++ [(k : Int)])).foldl (updO (lenO p ts)) s1) ∧ Kept (fun k => k = ql ∨ k = qb) W1 w')) from
      (try128 w qt qp ql qb qy u v1 v2 p ts hv hu hk r w1 v s1 (l ++ [(k : Int)]) (hm1.later hb) (ho.toSl encI_len (by simp; omega)) (fun j hj => by
        obtain ⟨_, hq2, _⟩ := hm1.bb
        exact ⟨fun e => (Own.ne ho hm1.bl.lt) (by rw [hj, e]), fun e => (Own.ne ho hq2.lt) (by rw [hj, e])⟩) (fun n c e => by
        obtain ⟨g, cap, e2, _⟩ := Own.form ho (by simp)
        rw [e] at e2; cases e2) (by
        rw [List.length_append, List.length_singleton]
        exact hl.snoc ⟨by omega, by omega⟩ (by simpa using hc)) (by simp; omega) hb1).mono fun e w' h => ⟨h.1, h.2.1, ((Kept.refl _ W1).below hb).trans h.2.2⟩)
    have HBD := Lib.hid (trS_bd hk hl hr hb)
    have HSK := Lib.hid (fun (k : Nat) (h : k < ts.length) hc => trS_skip (f := lenO p ts) (r := r) (s := s) (l := l) h hc)
    have HST := Lib.hid (fun (k : Nat) (h : k < ts.length) hc => trS_step (f := lenO p ts) (r := r) (s := s) (l := l) h hc)
    obtain ⟨Q, hQ⟩ : ∃ Q, TrP w W qt qp ql qb qy u v1 v2 ((extO ts.length (r + 1) l).foldl (updO (lenO p ts)) s) = Q := ⟨_, rfl⟩
    rw [hQ]
    have HQ : Hid (∀ (w' : World), TrM w w' qt qp ql qb qy u v1 v2 (trS (lenO p ts) ts.length r l s ts.length) → Kept (fun k => k = ql ∨ k = qb) W w' → Q (.returned (.tuple #[])) w') := Lib.hid (fun w' h1 h2 => by rw [← hQ]; rw [trS_all] at h1; exact ⟨rfl, h1, h2⟩)
    clear hQ
    have HTM := Lib.hid hm
    have HSS := Lib.hid (fun (w1 : World) (hk : Kept (fun k => k = ql ∨ k = qb) W w1) => hs.keptA hk ha)
    have HIN := Lib.hid hl.ins
    obtain ⟨au, cu, hu1, ⟨hu2, hu3⟩, _⟩ := id hu
    subst hu1
    obtain ⟨ao, co, rfl, ⟨hlo, hlc⟩, _⟩ := id hs
    have HNO := Lib.hid (show ao = none → co = 0 from fun e => hn _ co (by rw [e]))
    have HFZ := Lib.hid (show trS (lenO p ts) ts.length r l s 0 = s from rfl)
    generalize trS (lenO p ts) ts.length r l s = tr at *
    obtain ⟨nt, hnt⟩ : ∃ n, ts.length = n := ⟨_, rfl⟩
    obtain ⟨nl, hnl⟩ : ∃ n, l.length = n := ⟨_, rfl⟩
    rw [hnt] at HBD HSK HST HQ HTM IH h16 hu2 hu3 HIN hr
    rw [hnl] at HSS hlo hlc hr ⊢
    have HNL := Lib.hid hnl
    clear hv hu hk hm hs ha hn hl hb hnt hnl
    have e1 : ((nl : Int) == (nt : Int)) = false := beq_eq_false_iff_ne.2 (by omega)
    have e1' : (nl == nt) = false := beq_eq_false_iff_ne.2 (by omega)
    obtain ⟨t0, tf, tz⟩ := HTM.out.bt.v1
    go_enter Tryz.func128, Tryz.ntmps128
    go_wp2_with fail
    go_step3
    go_wp2_with fail
    go_step3
    go_wp2_with fail
    clear t0 tf tz e1 e1'
    go_loopg [51] nt (fun g s51 wr => ∃ k : Nat, k + g = nt ∧ s51 = .int .i64 k ∧ TrM w wr qt qp ql qb qy (.slice au nt cu) v1 v2 (tr k) ∧ Kept (fun k => k = ql ∨ k = qb) W wr)
    case atStart => exact ⟨0, by omega, rfl, by rw [HFZ.out]; exact HTM.out, Kept.refl _ _⟩
    case round =>
      obtain ⟨k, hkg, rfl, htm, hkp⟩ := hrel
      have HTK := Lib.hid htm
      have HKP := Lib.hid hkp
      have HSW := Lib.hid (HSS.out _ hkp)
      clear htm hkp
      cases gk with
      | zero =>
        obtain rfl : nt = k := by omega
        have d1 : ¬ ((nt : Int) < (nt : Int)) := by omega
        go_wp2_with fail
        (try rw [Exit.noGoto_ret])
        refine bodyPost_ret (results_none rfl _ _ _) rfl ?_
        exact HQ.out _ HTK.out HKP.out
      | succ g =>
        have hlt : (k : Int) < (nt : Int) := by omega
        have hlt' : k < nt := by omega
        go_wp2_with fail
        go_loopg [56] nl (fun g2 s56 wy => ∃ j : Nat, j + g2 = nl ∧ s56 = .int .i64 j ∧ (l.take j).contains (k : Int) = false ∧ wr = wy)
        case atStart => exact ⟨0, by omega, rfl, by simp, rfl⟩
        case round =>
          obtain ⟨j, hjg, rfl, hnc, rfl⟩ := hrel
          have HNC := Lib.hid hnc
          clear hnc
          cases gk with
          | zero =>
            obtain rfl : nl = j := by omega
            have d1 : ¬ ((nl : Int) < (nl : Int)) := by omega
            have HC0 := Lib.hid (show l.contains (k : Int) = false by
              have h := HNC.out
              rwa [List.take_of_length_le (by rw [HNL.out]; exact Nat.le_refl _)] at h)
            go_wp2_with fail
            refine r18_walkA wr ao nl co l (.slice au nt cu) qt qp ql qb qy nt k _ HSW.out HNL.out HNO.out (by omega) HTK.out.bf (IH.out wr k (tr k) HTK.out hlt' HC0.out (HBD.out k (by omega))) (by apply frT_act <;> rfl) ?_
            rintro z' W' ⟨hd1, hd2⟩
            have HD1 := Lib.hid (show TrM w W' qt qp ql qb qy (.slice au nt cu) v1 v2 (tr (k + 1)) by rw [HST.out k hlt' HC0.out]; exact hd1)
            have HD2 := Lib.hid (HKP.out.trans hd2)
            clear hd1 hd2
            simp only [frT]
            go_wp2_with fail
            go_roundg g
            case measure => omega
            case rel => exact ⟨k + 1, by omega, by go_num, HD1.out, HD2.out⟩
          | succ g2 =>
            have hj1 : (j : Int) < (nl : Int) := by omega
            have hj2 : j < l.length := by rw [HNL.out]; omega
            obtain ⟨a', c', e5, _, hA⟩ := id HSW.out
            rw [HNL.out] at e5
            cases e5
            obtain ⟨b, off, rfl, hbb, hc⟩ := hA (by omega)
            have c0 := (hc j hj2).c1
            rw [Nat.mul_one] at c0
            have HTA := Lib.hid (show (l.take (j + 1)).contains (k : Int) = ((l.take j).contains (k : Int) || (l[j] == (k : Int))) by
              rw [Bool.eq_iff_iff, Bool.or_eq_true, contains_iff, contains_iff, List.take_succ_eq_append_getElem hj2, List.mem_append, List.mem_singleton, beq_iff_eq]
              exact or_congr Iff.rfl eq_comm)
            have HMEM := Lib.hid (show l[j] = (k : Int) → l.contains (k : Int) = true from fun e => by rw [← e]; exact contains_iff.2 (List.getElem_mem hj2))
            clear hA hc
            generalize l[j] = x at *
            by_cases hx : x = (k : Int)
            · subst hx
              have HSQ := Lib.hid (HSK.out k hlt' (HMEM.out rfl))
              go_wp2_with fail
              go_roundg g
              case measure => omega
              case rel => exact ⟨k + 1, by omega, by go_num, by rw [HSQ.out]; exact HTK.out, HKP.out⟩
            · have e1 : (x == (k : Int)) = false := beq_eq_false_iff_ne.2 hx
              have HN2 := Lib.hid (show (l.take (j + 1)).contains (k : Int) = false by rw [HTA.out, HNC.out, e1]; rfl)
              clear hx
              go_wp2_with fail
              go_roundg g2
              case measure => omega
              case rel => exact ⟨j + 1, by omega, by go_num, HN2.out, rfl⟩
end Go.Proofs.YtahpdkkpnkhnhaaGreatDoor
/- Walks: Best of the program. -/
namespace Go.Proofs.YtahpdkkpnkhnhaaGreatDoor
open Go Go.Proofs Go.RowKit Go.Shelf
theorem TrM.start {w w2 : World} {qt qp : Nat} {u v1 v2 : Value} (hb : Below w.heap.size w w2) (hx : Box w2 qp 25 [v1, v2]) (hy : Box w2 qt 73 [u]) :
    TrM w (((w2.alloc (.cells #[.slice none 0 0] 26)).alloc (.cells #[.int .i64 (-1)] 3)).alloc (.cells #[(.func (.func 128) #[] #[.pointer (some ⟨qt, 0, none⟩), .pointer (some ⟨qp, 0, none⟩), .pointer (some ⟨w2.heap.size + 1, 0, none⟩), .pointer (some ⟨w2.heap.size, 0, none⟩), .pointer (some ⟨w2.heap.size + 1 + 1, 0, none⟩)])] 122)) qt qp (w2.heap.size + 1) w2.heap.size (w2.heap.size + 1 + 1) u v1 v2 ([], -1) := by
  have h1 := hx.lt
  have h2 := hy.lt
  have h3 := hb.size
  refine ⟨((hy.alloc _).alloc _).alloc _, ((hx.alloc _).alloc _).alloc _, ?_, ⟨.slice none 0 0, ?_, Sl.nil _ _ _ _ _ _, fun k hk => by cases hk⟩, ?_, by omega, by omega, by omega, by omega, by omega, ?_⟩
  · exact (Box.newAt (w2.alloc (.cells #[.slice none 0 0] 26)) #[.int .i64 (-1)] 3 (by simp)).alloc _
  · exact ((Box.new w2 #[.slice none 0 0] 26).alloc _).alloc _
  · exact Box.newAt ((w2.alloc (.cells #[.slice none 0 0] 26)).alloc (.cells #[.int .i64 (-1)] 3)) #[(.func (.func 128) #[] #[.pointer (some ⟨qt, 0, none⟩), .pointer (some ⟨qp, 0, none⟩), .pointer (some ⟨w2.heap.size + 1, 0, none⟩), .pointer (some ⟨w2.heap.size, 0, none⟩), .pointer (some ⟨w2.heap.size + 1 + 1, 0, none⟩)])] 122 (by simp)
  · exact ((hb.alloc (by omega) _).alloc (by simp; omega) _).alloc (by simp; omega) _
def bestE (p : Pl) (ts : List Tk) : Int := if ckTasks p ts ≠ 0 then ckTasks p ts else if 6 < ts.length then 19 else 0
def BestQ (w : World) (p : Pl) (ts : List Tk) (e : Ending) (w' : World) : Prop :=
  ∃ v l, e = .returned (.tuple #[v, .int .i64 (bestE p ts)]) ∧ Sl encI 1 w' w'.heap.size v l ∧ (bestE p ts ≠ 0 → l = []) ∧ (bestE p ts = 0 → TsOk p ts ∧ ts.length ≤ 6 ∧ l = (bestO (lenO p ts) (levO ts.length ts.length)).1) ∧ Below w.heap.size w w'
set_option maxRecDepth 100000 in
set_option maxHeartbeats 1000000 in
theorem best71 (w : World) (v1 v2 u : Value) (p : Pl) (ts : List Tk) (hw : WdR w) (hv : PlR w w.heap.size v1 v2 p) (hu : TasksR w w.heap.size u ts) (hs : SzT ts) : Calls Tryz.prog 71 #[.agg #[v1, v2], u] w (BestQ w p ts) := by
  have C53 := Lib.hid (fun (w1 : World) (hb : Below w.heap.size w w1) => checkTasks53 w1 _ _ u p ts (hw.later hb) (hv.later hb) (hu.later hb) hs)
  have C128 := Lib.hid (fun hk => fun (W : World) (qt qp ql qb qy : Nat) (hm : TrM w W qt qp ql qb qy u v1 v2 ([], -1)) => try128 w qt qp ql qb qy u v1 v2 p ts hv hu hk ts.length W (.slice none 0 0) ([], -1) [] hm (Sl.nil _ _ _ _ _ _) (fun k hk => by cases hk) (fun n c e => by cases e; rfl) (OrdK.nil _) (by simp) (by decide))
  have HBO := Lib.hid (show (extO ts.length ts.length []).foldl (updO (lenO p ts)) ([], -1) = bestO (lenO p ts) (levO ts.length ts.length) by rw [lev_all]; rfl)
  have HTO := Lib.hid (show ckTasks p ts = 0 → TsOk p ts from TsOk.of)
  obtain ⟨Q, hQ⟩ : ∃ Q, BestQ w p ts = Q := ⟨_, rfl⟩
  rw [hQ]
  have HQ : Hid (∀ v l w', Sl encI 1 w' w'.heap.size v l → (bestE p ts ≠ 0 → l = []) → (bestE p ts = 0 → TsOk p ts ∧ ts.length ≤ 6 ∧ l = (bestO (lenO p ts) (levO ts.length ts.length)).1) → Below w.heap.size w w' → Q (.returned (.tuple #[v, .int .i64 (bestE p ts)])) w') := Lib.hid (fun v l w' h1 h2 h3 h4 => by rw [← hQ]; exact ⟨v, l, rfl, h1, h2, h3, h4⟩)
  clear hQ
  obtain ⟨a1, n1, a2, n2, rfl, rfl⟩ := hv.agg
  obtain ⟨au, cu, rfl, ⟨hu2, hu3⟩, _⟩ := id hu
  clear hw hv hu hs
  have HB := Lib.hid (((Below.refl w.heap.size w).alloc (Nat.le_refl _) (.cells #[.slice a1 p.ms.length n1, .slice a2 p.arcs.length n2] 25)).alloc (by simp) (.cells #[.slice au ts.length cu] 73))
  have HX := Lib.hid ((Box.new w #[.slice a1 p.ms.length n1, .slice a2 p.arcs.length n2] 25).alloc (.cells #[.slice au ts.length cu] 73))
  have HY := Lib.hid (Box.newAt (w.alloc (.cells #[.slice a1 p.ms.length n1, .slice a2 p.arcs.length n2] 25)) #[.slice au ts.length cu] 73 (by simp : _ = w.heap.size + 1))
  obtain ⟨R, hR⟩ : ∃ R, bestE p ts = R := ⟨_, rfl⟩
  rw [hR] at HQ
  unfold bestE at hR
  obtain ⟨B, hBO⟩ : ∃ B, bestO (lenO p ts) (levO ts.length ts.length) = B := ⟨_, rfl⟩
  rw [hBO] at HQ HBO
  obtain ⟨n, hn⟩ : ∃ n, p.ms.length = n := ⟨_, rfl⟩
  obtain ⟨m, hm⟩ : ∃ n, p.arcs.length = n := ⟨_, rfl⟩
  obtain ⟨nt, hnt⟩ : ∃ n, ts.length = n := ⟨_, rfl⟩
  obtain ⟨ck, hck⟩ : ∃ n, ckTasks p ts = n := ⟨_, rfl⟩
  rw [hn] at HB HX HY C53 C128 ⊢
  rw [hm] at HB HX HY C53 C128 ⊢
  rw [hnt] at HB HX HY C53 C128 HBO HQ hu2 hu3 hR ⊢
  rw [hck] at hR C53 HTO
  clear hn hm hnt hck hBO
  go_enter Tryz.func71, Tryz.ntmps71
  go_wp2_with fail
  refine (C53.out _ HB.out).mono ?_
  rintro e w2 ⟨rfl, hb⟩
  have HB2 := Lib.hid (HB.out.trans (hb.mono HB.out.size))
  have HX2 := Lib.hid (HX.out.later hb)
  have HY2 := Lib.hid (HY.out.later hb)
  clear hb HB HX HY
  obtain ⟨x0, x1, xf, xz⟩ := HX2.out.v2
  obtain ⟨y0, yf, yz⟩ := HY2.out.v1
  by_cases h0 : ck = 0
  rotate_left
  · have e1 : (ck != 0) = true := bne_iff_ne.2 h0
    have HV := Lib.hid (HQ.out (.slice none 0 0) [] w2 (Sl.nil _ _ _ _ _ _) (fun _ => rfl) (fun h => by rw [if_pos h0] at hR; omega) HB2.out)
    rw [if_pos h0] at hR
    subst hR
    clear h0
    go_wp2_with fail
    (try go_ret2)
    exact HV.out
  subst h0
  by_cases h6 : 6 < nt
  · have d1 : decide ((6 : Int) < (nt : Int)) = true := decide_eq_true (by omega)
    have d2 : decide (6 < nt) = true := decide_eq_true h6
    rw [if_neg (by simp), if_pos h6] at hR
    subst hR
    have HV := Lib.hid (HQ.out (.slice none 0 0) [] w2 (Sl.nil _ _ _ _ _ _) (fun _ => rfl) (fun h => by cases h) HB2.out)
    clear h6
    go_wp2_with fail
    (try go_ret2)
    exact HV.out
  have d1 : decide ((6 : Int) < (nt : Int)) = false := decide_eq_false (by omega)
  have d2 : decide (6 < nt) = false := decide_eq_false h6
  rw [if_neg (by simp), if_neg h6] at hR
  subst hR
  have HOK := Lib.hid (HTO.out rfl)
  have H6 := Lib.hid (show nt ≤ 6 by omega)
  clear h6
  have HM := Lib.hid (TrM.start HB2.out HX2.out HY2.out)
  go_wp2_with fail
  refine (C128.out HOK.out _ _ _ _ _ _ HM.out).mono ?_
  rintro e w3 ⟨rfl, hm3, _⟩
  rw [HBO.out] at hm3
  obtain ⟨v3, hb3, hs3, haw⟩ := hm3.bb
  clear haw
  obtain ⟨a3, c3, hv3, hx1, hx2⟩ := id hs3
  clear hx1 hx2
  subst hv3
  have HV := Lib.hid (HQ.out _ _ w3 hs3 (fun h => absurd rfl h) (fun _ => ⟨HOK.out, H6.out, rfl⟩) hm3.bw)
  obtain ⟨b0, bf, bz⟩ := hb3.v1
  clear hm3 hb3 hs3
  obtain ⟨n3, hn3⟩ : ∃ x, B.1.length = x := ⟨_, rfl⟩
  rw [hn3] at b0 HV
  clear hn3
  go_wp2_with fail
  (try go_ret2)
  exact HV.out
end Go.Proofs.YtahpdkkpnkhnhaaGreatDoor
