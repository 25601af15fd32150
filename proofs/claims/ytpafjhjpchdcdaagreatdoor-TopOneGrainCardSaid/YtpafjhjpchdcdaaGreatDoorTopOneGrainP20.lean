/- Lemmas on the way to the law TopOneGrain (part 20): YDe YDf YEj -/
import Derived.Test.YtpafjhjpchdcdaaGreatDoorTopOneGrainP19
import Derived.Deep.RegionWith
set_option linter.unusedVariables false
set_option linter.unusedSimpArgs false

/- Walks: checkEnds: whether a number stands twice in a list. -/
namespace Go.Proofs.YtpafjhjpchdcdaaGreatDoor
open Go Go.Proofs Go.RowKit Go.Shelf
def fr150 (N : Nat) (q0 q1 u q5 q7 q10 q11 q12 q13 q42 q43 q44 : Value) (g b k : Nat) (z : Nat → Value) : List Value := [q0, q1, u, .pointer (some ⟨N, 0, none⟩), .pointer (some ⟨N + 1, 0, none⟩), q5, z 6, q7, .pointer (some ⟨b, 0, none⟩), z 9, q10, q11, q12, q13, .slice (some ⟨g, 0, none⟩) 2 2, .int .i64 2, .int .i64 k, z 17, z 18, z 19, z 20, z 21, z 22, z 23, z 24, z 25, z 26, z 27, z 28, z 29, z 30, z 31, z 32, z 33, z 34, z 35, z 36, z 37, z 38, z 39, z 40, z 41, q42, q43, q44]
theorem fr150_of (N : Nat) (q0 q1 u q5 q7 q10 q11 q12 q13 q42 q43 q44 : Value) (g b k : Nat) (L : List Value) (hL : L.length = 45) (h0 : L[0]? = some (q0)) (h1 : L[1]? = some (q1)) (h2 : L[2]? = some (u)) (h3 : L[3]? = some (.pointer (some ⟨N, 0, none⟩))) (h4 : L[4]? = some (.pointer (some ⟨N + 1, 0, none⟩))) (h5 : L[5]? = some (q5)) (h7 : L[7]? = some (q7)) (h8 : L[8]? = some (.pointer (some ⟨b, 0, none⟩))) (h10 : L[10]? = some (q10)) (h11 : L[11]? = some (q11)) (h12 : L[12]? = some (q12)) (h13 : L[13]? = some (q13)) (h14 : L[14]? = some (.slice (some ⟨g, 0, none⟩) 2 2)) (h15 : L[15]? = some (.int .i64 2)) (h16 : L[16]? = some (.int .i64 k)) (h42 : L[42]? = some (q42)) (h43 : L[43]? = some (q43)) (h44 : L[44]? = some (q44)) : ∃ z, L = fr150 N q0 q1 u q5 q7 q10 q11 q12 q13 q42 q43 q44 g b k z := by
  refine ⟨fun i => L.getD i undef, ?_⟩
  unfold fr150
  have e := list_range L 45 hL
  have e0 : L.getD 0 undef = q0 := by rw [List.getD_eq_getElem?_getD, h0]; rfl
  have e1 : L.getD 1 undef = q1 := by rw [List.getD_eq_getElem?_getD, h1]; rfl
  have e2 : L.getD 2 undef = u := by rw [List.getD_eq_getElem?_getD, h2]; rfl
  have e3 : L.getD 3 undef = .pointer (some ⟨N, 0, none⟩) := by rw [List.getD_eq_getElem?_getD, h3]; rfl
  have e4 : L.getD 4 undef = .pointer (some ⟨N + 1, 0, none⟩) := by rw [List.getD_eq_getElem?_getD, h4]; rfl
  have e5 : L.getD 5 undef = q5 := by rw [List.getD_eq_getElem?_getD, h5]; rfl
  have e7 : L.getD 7 undef = q7 := by rw [List.getD_eq_getElem?_getD, h7]; rfl
  have e8 : L.getD 8 undef = .pointer (some ⟨b, 0, none⟩) := by rw [List.getD_eq_getElem?_getD, h8]; rfl
  have e10 : L.getD 10 undef = q10 := by rw [List.getD_eq_getElem?_getD, h10]; rfl
  have e11 : L.getD 11 undef = q11 := by rw [List.getD_eq_getElem?_getD, h11]; rfl
  have e12 : L.getD 12 undef = q12 := by rw [List.getD_eq_getElem?_getD, h12]; rfl
  have e13 : L.getD 13 undef = q13 := by rw [List.getD_eq_getElem?_getD, h13]; rfl
  have e14 : L.getD 14 undef = .slice (some ⟨g, 0, none⟩) 2 2 := by rw [List.getD_eq_getElem?_getD, h14]; rfl
  have e15 : L.getD 15 undef = .int .i64 2 := by rw [List.getD_eq_getElem?_getD, h15]; rfl
  have e16 : L.getD 16 undef = .int .i64 k := by rw [List.getD_eq_getElem?_getD, h16]; rfl
  have e42 : L.getD 42 undef = q42 := by rw [List.getD_eq_getElem?_getD, h42]; rfl
  have e43 : L.getD 43 undef = q43 := by rw [List.getD_eq_getElem?_getD, h43]; rfl
  have e44 : L.getD 44 undef = q44 := by rw [List.getD_eq_getElem?_getD, h44]; rfl
  rw [← e0, ← e1, ← e2, ← e3, ← e4, ← e5, ← e7, ← e8, ← e10, ← e11, ← e12, ← e13, ← e14, ← e15, ← e16, ← e42, ← e43, ← e44]
  exact e
theorem fr150_act (N : Nat) (q0 q1 u q5 q7 q10 q11 q12 q13 q42 q43 q44 : Value) (g b k : Nat) (A : Act) (ds : List Deferred) (hds : A.defers = ds) (hL : A.tmps.size = 45) (h0 : A.tmps[0]? = some (q0)) (h1 : A.tmps[1]? = some (q1)) (h2 : A.tmps[2]? = some (u)) (h3 : A.tmps[3]? = some (.pointer (some ⟨N, 0, none⟩))) (h4 : A.tmps[4]? = some (.pointer (some ⟨N + 1, 0, none⟩))) (h5 : A.tmps[5]? = some (q5)) (h7 : A.tmps[7]? = some (q7)) (h8 : A.tmps[8]? = some (.pointer (some ⟨b, 0, none⟩))) (h10 : A.tmps[10]? = some (q10)) (h11 : A.tmps[11]? = some (q11)) (h12 : A.tmps[12]? = some (q12)) (h13 : A.tmps[13]? = some (q13)) (h14 : A.tmps[14]? = some (.slice (some ⟨g, 0, none⟩) 2 2)) (h15 : A.tmps[15]? = some (.int .i64 2)) (h16 : A.tmps[16]? = some (.int .i64 k)) (h42 : A.tmps[42]? = some (q42)) (h43 : A.tmps[43]? = some (q43)) (h44 : A.tmps[44]? = some (q44)) : ∃ z, A = { tmps := (fr150 N q0 q1 u q5 q7 q10 q11 q12 q13 q42 q43 q44 g b k z).toArray, defers := ds } := by
  obtain ⟨z, e⟩ := fr150_of N q0 q1 u q5 q7 q10 q11 q12 q13 q42 q43 q44 g b k A.tmps.toList (by rw [Array.length_toList]; exact hL) (by rw [Array.getElem?_toList]; exact h0) (by rw [Array.getElem?_toList]; exact h1) (by rw [Array.getElem?_toList]; exact h2) (by rw [Array.getElem?_toList]; exact h3) (by rw [Array.getElem?_toList]; exact h4) (by rw [Array.getElem?_toList]; exact h5) (by rw [Array.getElem?_toList]; exact h7) (by rw [Array.getElem?_toList]; exact h8) (by rw [Array.getElem?_toList]; exact h10) (by rw [Array.getElem?_toList]; exact h11) (by rw [Array.getElem?_toList]; exact h12) (by rw [Array.getElem?_toList]; exact h13) (by rw [Array.getElem?_toList]; exact h14) (by rw [Array.getElem?_toList]; exact h15) (by rw [Array.getElem?_toList]; exact h16) (by rw [Array.getElem?_toList]; exact h42) (by rw [Array.getElem?_toList]; exact h43) (by rw [Array.getElem?_toList]; exact h44)
  exact ⟨z, by cases A; subst hds; dsimp only at e ⊢; rw [← e]⟩
def fr150d (N : Nat) (q0 q1 u q5 q7 q10 q11 q12 q13 q42 q43 q44 : Value) (g b k : Nat) (d : Bool) (z : Nat → Value) : List Value := [q0, q1, u, .pointer (some ⟨N, 0, none⟩), .pointer (some ⟨N + 1, 0, none⟩), q5, z 6, q7, .pointer (some ⟨b, 0, none⟩), z 9, q10, q11, q12, q13, .slice (some ⟨g, 0, none⟩) 2 2, .int .i64 2, .int .i64 k, z 17, z 18, z 19, z 20, z 21, z 22, z 23, z 24, z 25, z 26, z 27, z 28, z 29, z 30, z 31, z 32, z 33, z 34, z 35, z 36, z 37, z 38, z 39, .bool d, z 41, q42, q43, q44]
theorem fr150d_of (N : Nat) (q0 q1 u q5 q7 q10 q11 q12 q13 q42 q43 q44 : Value) (g b k : Nat) (d : Bool) (L : List Value) (hL : L.length = 45) (h0 : L[0]? = some (q0)) (h1 : L[1]? = some (q1)) (h2 : L[2]? = some (u)) (h3 : L[3]? = some (.pointer (some ⟨N, 0, none⟩))) (h4 : L[4]? = some (.pointer (some ⟨N + 1, 0, none⟩))) (h5 : L[5]? = some (q5)) (h7 : L[7]? = some (q7)) (h8 : L[8]? = some (.pointer (some ⟨b, 0, none⟩))) (h10 : L[10]? = some (q10)) (h11 : L[11]? = some (q11)) (h12 : L[12]? = some (q12)) (h13 : L[13]? = some (q13)) (h14 : L[14]? = some (.slice (some ⟨g, 0, none⟩) 2 2)) (h15 : L[15]? = some (.int .i64 2)) (h16 : L[16]? = some (.int .i64 k)) (h40 : L[40]? = some (.bool d)) (h42 : L[42]? = some (q42)) (h43 : L[43]? = some (q43)) (h44 : L[44]? = some (q44)) : ∃ z, L = fr150d N q0 q1 u q5 q7 q10 q11 q12 q13 q42 q43 q44 g b k d z := by
  refine ⟨fun i => L.getD i undef, ?_⟩
  unfold fr150d
  have e := list_range L 45 hL
  have e0 : L.getD 0 undef = q0 := by rw [List.getD_eq_getElem?_getD, h0]; rfl
  have e1 : L.getD 1 undef = q1 := by rw [List.getD_eq_getElem?_getD, h1]; rfl
  have e2 : L.getD 2 undef = u := by rw [List.getD_eq_getElem?_getD, h2]; rfl
  have e3 : L.getD 3 undef = .pointer (some ⟨N, 0, none⟩) := by rw [List.getD_eq_getElem?_getD, h3]; rfl
  have e4 : L.getD 4 undef = .pointer (some ⟨N + 1, 0, none⟩) := by rw [List.getD_eq_getElem?_getD, h4]; rfl
  have e5 : L.getD 5 undef = q5 := by rw [List.getD_eq_getElem?_getD, h5]; rfl
  have e7 : L.getD 7 undef = q7 := by rw [List.getD_eq_getElem?_getD, h7]; rfl
  have e8 : L.getD 8 undef = .pointer (some ⟨b, 0, none⟩) := by rw [List.getD_eq_getElem?_getD, h8]; rfl
  have e10 : L.getD 10 undef = q10 := by rw [List.getD_eq_getElem?_getD, h10]; rfl
  have e11 : L.getD 11 undef = q11 := by rw [List.getD_eq_getElem?_getD, h11]; rfl
  have e12 : L.getD 12 undef = q12 := by rw [List.getD_eq_getElem?_getD, h12]; rfl
  have e13 : L.getD 13 undef = q13 := by rw [List.getD_eq_getElem?_getD, h13]; rfl
  have e14 : L.getD 14 undef = .slice (some ⟨g, 0, none⟩) 2 2 := by rw [List.getD_eq_getElem?_getD, h14]; rfl
  have e15 : L.getD 15 undef = .int .i64 2 := by rw [List.getD_eq_getElem?_getD, h15]; rfl
  have e16 : L.getD 16 undef = .int .i64 k := by rw [List.getD_eq_getElem?_getD, h16]; rfl
  have e40 : L.getD 40 undef = .bool d := by rw [List.getD_eq_getElem?_getD, h40]; rfl
  have e42 : L.getD 42 undef = q42 := by rw [List.getD_eq_getElem?_getD, h42]; rfl
  have e43 : L.getD 43 undef = q43 := by rw [List.getD_eq_getElem?_getD, h43]; rfl
  have e44 : L.getD 44 undef = q44 := by rw [List.getD_eq_getElem?_getD, h44]; rfl
  rw [← e0, ← e1, ← e2, ← e3, ← e4, ← e5, ← e7, ← e8, ← e10, ← e11, ← e12, ← e13, ← e14, ← e15, ← e16, ← e40, ← e42, ← e43, ← e44]
  exact e
theorem fr150d_act (N : Nat) (q0 q1 u q5 q7 q10 q11 q12 q13 q42 q43 q44 : Value) (g b k : Nat) (d : Bool) (A : Act) (ds : List Deferred) (hds : A.defers = ds) (hL : A.tmps.size = 45) (h0 : A.tmps[0]? = some (q0)) (h1 : A.tmps[1]? = some (q1)) (h2 : A.tmps[2]? = some (u)) (h3 : A.tmps[3]? = some (.pointer (some ⟨N, 0, none⟩))) (h4 : A.tmps[4]? = some (.pointer (some ⟨N + 1, 0, none⟩))) (h5 : A.tmps[5]? = some (q5)) (h7 : A.tmps[7]? = some (q7)) (h8 : A.tmps[8]? = some (.pointer (some ⟨b, 0, none⟩))) (h10 : A.tmps[10]? = some (q10)) (h11 : A.tmps[11]? = some (q11)) (h12 : A.tmps[12]? = some (q12)) (h13 : A.tmps[13]? = some (q13)) (h14 : A.tmps[14]? = some (.slice (some ⟨g, 0, none⟩) 2 2)) (h15 : A.tmps[15]? = some (.int .i64 2)) (h16 : A.tmps[16]? = some (.int .i64 k)) (h40 : A.tmps[40]? = some (.bool d)) (h42 : A.tmps[42]? = some (q42)) (h43 : A.tmps[43]? = some (q43)) (h44 : A.tmps[44]? = some (q44)) : ∃ z, A = { tmps := (fr150d N q0 q1 u q5 q7 q10 q11 q12 q13 q42 q43 q44 g b k d z).toArray, defers := ds } := by
  obtain ⟨z, e⟩ := fr150d_of N q0 q1 u q5 q7 q10 q11 q12 q13 q42 q43 q44 g b k d A.tmps.toList (by rw [Array.length_toList]; exact hL) (by rw [Array.getElem?_toList]; exact h0) (by rw [Array.getElem?_toList]; exact h1) (by rw [Array.getElem?_toList]; exact h2) (by rw [Array.getElem?_toList]; exact h3) (by rw [Array.getElem?_toList]; exact h4) (by rw [Array.getElem?_toList]; exact h5) (by rw [Array.getElem?_toList]; exact h7) (by rw [Array.getElem?_toList]; exact h8) (by rw [Array.getElem?_toList]; exact h10) (by rw [Array.getElem?_toList]; exact h11) (by rw [Array.getElem?_toList]; exact h12) (by rw [Array.getElem?_toList]; exact h13) (by rw [Array.getElem?_toList]; exact h14) (by rw [Array.getElem?_toList]; exact h15) (by rw [Array.getElem?_toList]; exact h16) (by rw [Array.getElem?_toList]; exact h40) (by rw [Array.getElem?_toList]; exact h42) (by rw [Array.getElem?_toList]; exact h43) (by rw [Array.getElem?_toList]; exact h44)
  exact ⟨z, by cases A; subst hds; dsimp only at e ⊢; rw [← e]⟩
noncomputable def rnd150 : Code := codeL (codeL (codeR (codeL (codeR (Tryz.f66.body.getD .skip)))))
noncomputable def x150 : Code := codeL (codeL (codeR (codeR rnd150)))
noncomputable def r9_150 : Code := codeL (codeR (codeR (codeR x150)))
set_option maxRecDepth 100000 in
set_option maxHeartbeats 1000000 in
theorem r9_150_walk (W : World) (N : Nat) (q0 q1 u q5 q7 q10 q11 q12 q13 q42 q43 q44 : Value) (g b k B : Nat) (a : Option Addr) (n c : Nat) (v2 : Value) (l : List Int) (z : Nat → Value) (hx : Box W b 125 [.slice a n c, v2]) (hn : l.length = n) (hs : Sl encI 1 W B (.slice a n c) l) (hB : B ≤ W.heap.size) (hl : n ≤ 1000000000) (d : Bool) (hd : dupB l = d) :
    r9_150.wp Tryz.prog (fun e A W' => e = .normal ∧ (∃ z', A = { tmps := (fr150d N q0 q1 u q5 q7 q10 q11 q12 q13 q42 q43 q44 g b k d z').toArray, defers := [] }) ∧ Below W.heap.size W W') { tmps := (fr150 N q0 q1 u q5 q7 q10 q11 q12 q13 q42 q43 q44 g b k z).toArray, defers := [] } W := by
  have k1 : ((cptN l : Int) != (n : Int)) = d := by rw [← hn, ← hd]; exact cptN_dup l
  have x0 := hx.cell 0
  have xz := hx.lt
  simp only [List.getElem?_cons_zero] at x0
  have HV : Hid (VlR (W.drew.alloc (.cells #[.slice a n c] 34)) W.drew.heap.size B (.slice a n c) l) := Lib.hid (by
    have hb : Below W.heap.size W (W.drew.alloc (.cells #[.slice a n c] 34)) := (Below.refl _ _).drew.alloc (Nat.le_refl _) _
    exact ⟨Box.new W.drew #[.slice a n c] 34, hs.below (hb.mono hB), Nat.le_trans hB hb.size⟩)
  have HSO : Hid (∀ q, VlR (W.drew.alloc (.cells #[.slice a n c] 34)) q B (.slice a n c) l → Calls Tryz.prog 85 #[.func (.func 98) #[] #[.pointer (some ⟨q, 0, none⟩)]] (W.drew.alloc (.cells #[.slice a n c] 34)) fun e w' => ∃ v', e = .returned v' ∧ Own encI 1 3 w' (W.drew.alloc (.cells #[.slice a n c] 34)).heap.size v' (sortI l) ∧ Below (W.drew.alloc (.cells #[.slice a n c] 34)).heap.size (W.drew.alloc (.cells #[.slice a n c] 34)) w') := Lib.hid (fun q h => sorted134 q B (.slice a n c) l _ h (by rw [hn]; exact hl))
  have HCO : Hid (∀ (base : Nat) (v' : Value) (w' : World), Own encI 1 3 w' base v' (sortI l) → base ≤ w'.heap.size → Calls Tryz.prog 84 #[v'] w' fun e w'' => ∃ a c, e = .returned (.slice a (cptN l) c) ∧ Below base w' w'') := Lib.hid (fun base v' w' h1 h2 => compact133 base v' l w' h1 h2 (by rw [hn]; exact hl))
  have HB0 : Hid (Below W.heap.size W (W.drew.alloc (.cells #[.slice a n c] 34))) := Lib.hid ((Below.refl _ _).drew.alloc (Nat.le_refl _) _)
  generalize cptN l = m at *
  clear hx hs hn hd
  simp only [r9_150, x150, rnd150, codeL, codeR, Tryz.f66, Option.getD, fr150]
  refine wp_region_noPanic ?_
  go_region_with (first
    | (go_at_call 86; refine (values135 _ _ _ _).mono ?_; rintro e w' ⟨rfl, rfl⟩)
    | (go_at_call 85; refine (HSO.out _ HV.out).mono ?_; rintro e w2 ⟨v', rfl, hown, hbel⟩; obtain ⟨a', c', rfl⟩ := hown.shape; have q3 := fun o => hbel.cell (p := ⟨b, o, none⟩) (by simp; omega); have q4 : b < w2.heap.size := Nat.lt_of_lt_of_le (by simp; omega) hbel.size; have HO2 := Lib.hid hown; have HB2 := Lib.hid hbel; clear hown hbel)
    | (go_at_call 84; refine (HCO.out _ _ _ HO2.out HB2.out.size).mono ?_; rintro e w3 ⟨a3, c3, rfl, hbel3⟩; have q5 := fun o => hbel3.cell (p := ⟨b, o, none⟩) (by simp; omega); have q6 : b < w3.heap.size := Nat.lt_of_lt_of_le q4 hbel3.size; have HB3 := Lib.hid hbel3; clear hbel3))
  all_goals refine NoPanic.normal ?_
  all_goals exact ⟨rfl, by apply fr150d_act <;> first | rfl | (simp [k1]; done), HB0.out.trans ((HB2.out.trans HB3.out).mono HB0.out.size)⟩
end Go.Proofs.YtpafjhjpchdcdaaGreatDoor
/- Walks: checkEnds and checkBoth. -/
namespace Go.Proofs.YtpafjhjpchdcdaaGreatDoor
open Go Go.Proofs Go.RowKit Go.Shelf
theorem wp_of_ex {P : Program} {c : Code} {Q : Exit → Act → World → Prop} {A : Act} {W : World} {F : (Nat → Value) → Act} (h : ∃ z, A = F z) (h2 : ∀ z, c.wp P Q (F z) W) : c.wp P Q A W := by
  obtain ⟨z, rfl⟩ := h; exact h2 z
def endE (p : Pl) (f : ByteArray → Bool) (l : List Int) : Int :=
  if l.any (fun x => !inN p.ms.length x) then 10 else if l.any (fun x => !f (kdA p x)) then 20 else if dupB l then 9 else 0
def endsE (p : Pl) (src snk : List Int) : Int :=
  if endE p bgB src ≠ 0 then endE p bgB src else if endE p enB snk ≠ 0 then endE p enB snk else if snk.any (fun x => src.contains x) then 9 else 0
def bothE (p : Pl) (src snk : List Int) : Int := if ckPlant p ≠ 0 then ckPlant p else endsE p src snk
structure EndK (w wr : World) (p : Pl) (src snk : List Int) (g k : Nat) (a : Option Addr) (n c gk : Nat) (lk : List Int) (f : ByteArray → Bool) : Prop where
  c0 : wr.cell? ⟨g, k * 2, none⟩ = some (.slice a n c)
  c1 : wr.cell? ⟨g, k * 2 + 1, none⟩ = some (.func (.func gk) #[] #[])
  gkc : gk = 81 ∨ gk = 82
  hf : ∀ s, (if gk = 81 then bgB s else enB s) = f s
  hn : lk.length = n
  hl : n ≤ 1000000000
  sl : Sl encI 1 w w.heap.size (.slice a n c) lk
  no : (∀ i, i < k → (if i = 0 then endE p bgB src else endE p enB snk) = 0) → endE p f lk ≠ 0 → endsE p src snk = endE p f lk
  go : (∀ i, i < k → (if i = 0 then endE p bgB src else endE p enB snk) = 0) → endE p f lk = 0 → ∀ i, i < k + 1 → (if i = 0 then endE p bgB src else endE p enB snk) = 0
theorem endK_of {w wr : World} {p : Pl} {src snk : List Int} {g k : Nat} {s t : Value} (hs : Sl encI 1 w w.heap.size s src) (ht : Sl encI 1 w w.heap.size t snk) (hx : Box wr g 125 [s, .func (.func 81) #[] #[], t, .func (.func 82) #[] #[]]) (hk : k < 2) :
    ∃ a n c gk lk f, EndK w wr p src snk g k a n c gk lk f := by
  obtain ⟨a, c, rfl, hl, hA⟩ := id hs
  obtain ⟨a', c', rfl, hl', hA'⟩ := id ht
  have h0 := hx.cell 0
  have h1 := hx.cell 1
  have h2 := hx.cell 2
  have h3 := hx.cell 3
  simp only [List.getElem?_cons_zero, List.getElem?_cons_succ] at h0 h1 h2 h3
  rcases (show k = 0 ∨ k = 1 by omega) with rfl | rfl
  · refine ⟨a, src.length, c, 81, src, bgB, h0, h1, .inl rfl, fun s => by rw [if_pos rfl], rfl, hl.1, hs, fun _ h => ?_, fun _ h i hi => ?_⟩
    · unfold endsE; rw [if_pos h]
    · rw [if_pos (by omega)]; exact h
  · refine ⟨a', snk.length, c', 82, snk, enB, h2, h3, .inr rfl, fun s => by rw [if_neg (by decide)], rfl, hl'.1, ht, fun h0 h => ?_, fun h0 h i hi => ?_⟩
    · have := h0 0 (by omega)
      rw [if_pos rfl] at this
      unfold endsE; rw [if_neg (by rw [this]; simp), if_pos h]
    · by_cases e : i = 0
      · subst e; exact h0 0 (by omega)
      · rw [if_neg e]; exact h
set_option maxRecDepth 100000 in
set_option maxHeartbeats 1000000 in
theorem checkEnds150 (w : World) (v1 v2 s t : Value) (p : Pl) (src snk : List Int) (hwd : WdR w) (hv : PlR w w.heap.size v1 v2 p) (hn64 : p.ms.length ≤ 64) (hs : Sl encI 1 w w.heap.size s src) (ht : Sl encI 1 w w.heap.size t snk) :
    Calls Tryz.prog 66 #[.agg #[v1, v2], s, t] w (Ret (.int .i64 (endsE p src snk)) w) := by
  obtain ⟨Q, hQ⟩ : ∃ Q, Ret (.int .i64 (endsE p src snk)) w = Q := ⟨_, rfl⟩
  rw [hQ]
  have HQ : Hid (∀ x w', Below w.heap.size w w' → x = endsE p src snk → Q (.returned (.int .i64 x)) w') := Lib.hid (fun x w' hb hx => by rw [← hQ, hx]; exact ⟨rfl, hb⟩)
  clear hQ
  have HWD := Lib.hid (fun (w1 : World) (hb : Below w.heap.size w w1) => hwd.later hb)
  have HEK := Lib.hid (fun (wr : World) (g k : Nat) (hx : Box wr g 125 [s, .func (.func 81) #[] #[], t, .func (.func 82) #[] #[]]) (hk : k < 2) => endK_of (p := p) hs ht hx hk)
  have HCT := Lib.hid (fun (w1 : World) (hb : Below w.heap.size w w1) (hq : Box w1 (w.heap.size + 1) 34 [s]) => containsF111 t snk 87 #[.pointer (some ⟨w.heap.size + 1, 0, none⟩)] (fun x => src.contains x) w1 (enters_of Tryz.func87 (by kernel_rfl) rfl) (ht.later hb) (fun w' x hb' _ => in159 s src x (w.heap.size + 1) w' (hq.later hb') (hs.later (hb.trans (hb'.mono hb.size)))))
  obtain ⟨⟨a1, n1, rfl, hl1, hA1⟩, ⟨a2, n2, rfl, hl2, hA2⟩⟩ := hv
  obtain ⟨sa, cs, rfl, _, _⟩ := id hs
  obtain ⟨ta, ct, rfl, _, _⟩ := id ht
  have HA1 := Lib.hid hA1
  clear hA1 hA2 hwd hs ht
  obtain ⟨n, hn⟩ : ∃ n, p.ms.length = n := ⟨_, rfl⟩
  obtain ⟨ns, hns⟩ : ∃ n, src.length = n := ⟨_, rfl⟩
  obtain ⟨nt, hnt⟩ : ∃ n, snk.length = n := ⟨_, rfl⟩
  obtain ⟨m, hm⟩ : ∃ n, p.arcs.length = n := ⟨_, rfl⟩
  rw [hm] at hl2
  rw [hns] at HEK HCT
  rw [hnt] at HEK HCT
  rw [hn] at hn64 hl1
  rw [hn, hm, hns, hnt]
  have HN := Lib.hid hn
  clear hn hns hnt hm
  obtain ⟨P9, hP9⟩ : ∃ q, r9_150 = q := ⟨_, rfl⟩
  have HP9 := Lib.hid hP9
  simp only [r9_150, x150, rnd150, codeL, codeR, Tryz.f66, Option.getD] at hP9
  have HP2 := Lib.hid hP9
  clear hP9
  have HB0 := Lib.hid ((((Below.refl w.heap.size w).alloc (Nat.le_refl _) (.cells #[.slice a1 n n1, .slice a2 m n2] 25)).alloc (by simp) (.cells #[.slice sa ns cs] 34)).alloc (by simp; omega) (.cells #[.slice sa ns cs, .func (.func 81) #[] #[], .slice ta nt ct, .func (.func 82) #[] #[]] 125))
  have HX0 := Lib.hid (((Box.new w #[.slice a1 n n1, .slice a2 m n2] 25).alloc (.cells #[.slice sa ns cs] 34)).alloc (.cells #[.slice sa ns cs, .func (.func 81) #[] #[], .slice ta nt ct, .func (.func 82) #[] #[]] 125))
  have HY0 : Hid (Box (((w.alloc (.cells #[.slice a1 n n1, .slice a2 m n2] 25)).alloc (.cells #[.slice sa ns cs] 34)).alloc (.cells #[.slice sa ns cs, .func (.func 81) #[] #[], .slice ta nt ct, .func (.func 82) #[] #[]] 125)) (w.heap.size + 1) 34 [.slice sa ns cs]) := Lib.hid (by
    have := (Box.new (w.alloc (.cells #[.slice a1 n n1, .slice a2 m n2] 25)) #[.slice sa ns cs] 34).alloc (.cells #[.slice sa ns cs, .func (.func 81) #[] #[], .slice ta nt ct, .func (.func 82) #[] #[]] 125)
    rwa [World.size_alloc] at this)
  have HZ0 : Hid (Box (((w.alloc (.cells #[.slice a1 n n1, .slice a2 m n2] 25)).alloc (.cells #[.slice sa ns cs] 34)).alloc (.cells #[.slice sa ns cs, .func (.func 81) #[] #[], .slice ta nt ct, .func (.func 82) #[] #[]] 125)) (w.heap.size + 1 + 1) 125 [.slice sa ns cs, .func (.func 81) #[] #[], .slice ta nt ct, .func (.func 82) #[] #[]]) := Lib.hid (by
    have := Box.new ((w.alloc (.cells #[.slice a1 n n1, .slice a2 m n2] 25)).alloc (.cells #[.slice sa ns cs] 34)) #[.slice sa ns cs, .func (.func 81) #[] #[], .slice ta nt ct, .func (.func 82) #[] #[]] 125
    rwa [World.size_alloc, World.size_alloc] at this)
  go_enter Tryz.func66, Tryz.ntmps66
  go_wp2_with fail
  go_loopw [16] (fun i wr => ∃ k : Nat, k ≤ 2 ∧ i = .int .i64 k ∧ Below w.heap.size w wr ∧ Box wr w.heap.size 25 [.slice a1 n n1, .slice a2 m n2] ∧ Box wr (w.heap.size + 1) 34 [.slice sa ns cs] ∧ Box wr (w.heap.size + 1 + 1) 125 [.slice sa ns cs, .func (.func 81) #[] #[], .slice ta nt ct, .func (.func 82) #[] #[]] ∧ (∀ i, i < k → (if i = 0 then endE p bgB src else endE p enB snk) = 0)) (fun i _ => 2 - (intOf i).toNat)
  case atStart => exact ⟨0, by omega, rfl, HB0.out, HX0.out, HY0.out, HZ0.out, fun i hi => by omega⟩
  case round =>
    clear HB0 HX0 HY0 HZ0
    obtain ⟨k, hk, rfl, hb, hx, hy, hz, hin⟩ := hrel
    have HB := Lib.hid hb
    have HX := Lib.hid hx
    have HY := Lib.hid hy
    have HZ := Lib.hid hz
    have HIN := Lib.hid hin
    clear hb hx hy hz hin
    by_cases hlt : k < 2
    rotate_left
    · obtain rfl : k = 2 := by omega
      have HF : Hid ((if snk.any (fun x => src.contains x) = true then (9 : Int) else 0) = endsE p src snk) := Lib.hid (by
        have h0 := HIN.out 0 (by omega)
        have h1 := HIN.out 1 (by omega)
        rw [if_pos rfl] at h0
        rw [if_neg (by simp)] at h1
        unfold endsE
        rw [if_neg (show ¬ endE p bgB src ≠ 0 by rw [h0]; simp), if_neg (show ¬ endE p enB snk ≠ 0 by rw [h1]; simp)])
      obtain ⟨R, hR⟩ : ∃ R, snk.any (fun x => src.contains x) = R := ⟨_, rfl⟩
      rw [hR] at HF HCT
      clear hR
      have HC := Lib.hid (HCT.out wr HB.out HY.out)
      clear HCT
      cases R with
      | true =>
        go_wp2_with (go_at_call 39; refine HC.out.mono ?_; rintro e w2 ⟨rfl, hb2⟩)
        exact HQ.out _ _ (HB.out.trans (hb2.mono HB.out.size)) HF.out
      | false =>
        go_wp2_with (go_at_call 39; refine HC.out.mono ?_; rintro e w2 ⟨rfl, hb2⟩)
        exact HQ.out _ _ (HB.out.trans (hb2.mono HB.out.size)) HF.out
    obtain ⟨a, nk, c, gk, lk, f, hek⟩ := HEK.out wr (w.heap.size + 1 + 1) k HZ.out hlt
    have c0 := hek.c0
    have c1 := hek.c1
    have zz := HZ.out.lt
    have x0 := HX.out.cell 0
    have x1 := HX.out.cell 1
    have xz := HX.out.lt
    simp only [List.getElem?_cons_zero, List.getElem?_cons_succ] at x0 x1
    have HK := Lib.hid hek
    have HUK := Lib.hid (fun (w1 : World) (hb : Below w.heap.size w w1) => unknown79 a1 n n1 (.slice a2 m n2) (.slice a nk c) lk w1 (hek.sl.later hb))
    have HCK := Lib.hid (fun (w1 : World) (hb : Below w.heap.size w w1) (hq1 : Box w1 wr.heap.size 125 [.slice a nk c, .func (.func gk) #[] #[]]) (hq2 : Box w1 w.heap.size 25 [.slice a1 n n1, .slice a2 m n2]) (hin : ∀ x ∈ lk, inN n x = true) =>
      containsF111 (.slice a nk c) lk 83 #[.pointer (some ⟨wr.heap.size, 0, none⟩), .pointer (some ⟨w.heap.size, 0, none⟩)] (fun x => !f (kdA p x)) w1 (enters_of Tryz.func83 (by kernel_rfl) rfl) (hek.sl.later hb) (fun w' x hb' hx => by
        obtain ⟨j, rfl, hj⟩ := inN_nat (hin x hx)
        have hjl : j < p.ms.length := by rw [HN.out]; exact hj
        obtain ⟨b1, off1, e, hbb, hat⟩ := HA1.out (by omega)
        subst e
        have hb2 : Below w.heap.size w w' := hb.trans (hb'.mono hb.size)
        have h := no158 gk hek.gkc (.slice a nk c) b1 off1 n n1 (.slice a2 m n2) p.ms[j].kind p.ms[j].time j wr.heap.size w.heap.size w' (HWD.out w' hb2) (hq1.later hb') (hq2.later hb') hj hn64 ((hat j hjl).below hb2 hbb) (Nat.lt_of_lt_of_le hbb hb2.size)
        rw [hek.hf] at h
        show Calls _ _ _ _ (Ret (.bool (!f (kdA p (j : Int)))) w')
        rw [kdA_nat hjl]
        exact h))
    have HAL := Lib.hid ((Below.refl wr.heap.size wr).alloc (Nat.le_refl _) (.cells #[.slice a nk c, .func (.func gk) #[] #[]] 125))
    have HBX := Lib.hid (Box.new wr #[.slice a nk c, .func (.func gk) #[] #[]] 125)
    have HNO := Lib.hid (fun e (h : endE p f lk = e) (h0 : e ≠ 0) => show e = endsE p src snk by rw [hek.no HIN.out (by rw [h]; exact h0), h])
    have HNL := Lib.hid hek.hl
    have HNN := Lib.hid hek.hn
    have HSL := Lib.hid hek.sl
    clear hek
    obtain ⟨q, hq⟩ : ∃ q, lk.any (fun x => !inN n x) = q := ⟨_, rfl⟩
    obtain ⟨q2, hq2⟩ : ∃ q, lk.any (fun x => !f (kdA p x)) = q := ⟨_, rfl⟩
    obtain ⟨d, hd⟩ : ∃ d, dupB lk = d := ⟨_, rfl⟩
    have hE : endE p f lk = if q then 10 else if q2 then 20 else if d then 9 else 0 := by unfold endE; rw [HN.out, hq, hq2, hd]
    have HE := Lib.hid hE
    have HIN2 := Lib.hid (fun h : q = false => unk_in (hq.trans h))
    have HUE : Hid (unkE n lk = if q then 10 else 0) := Lib.hid (by unfold unkE; rw [hq])
    rw [hq2] at HCK
    rw [HUE.out] at HUK
    have HD := Lib.hid hd
    clear hE hq hq2 hd HUE
    rw [HP2.out]
    cases q with
    | true =>
      go_wp2_with (go_at_call 79; refine (HUK.out _ (HB.out.trans (HAL.out.mono HB.out.size))).mono ?_; rintro e w2 ⟨rfl, hb2⟩)
      exact HQ.out _ _ (HB.out.trans ((HAL.out.trans (hb2.mono HAL.out.size)).mono HB.out.size)) (HNO.out _ HE.out (by simp))
    | false =>
      have HIN3 := Lib.hid (HIN2.out rfl)
      clear HIN2
      go_wp2_with (go_at_call 79; refine (HUK.out _ (HB.out.trans (HAL.out.mono HB.out.size))).mono ?_; rintro e w2 ⟨rfl, hb2⟩; have HB2 := Lib.hid (HAL.out.trans (hb2.mono HAL.out.size)); have HBX2 := Lib.hid (HBX.out.later hb2); have y0 := HBX2.out.cell 0; have yz := HBX2.out.lt; clear hb2; simp only [List.getElem?_cons_zero] at y0)
      cases q2 with
      | true =>
        go_wp2_with (go_at_call 39; refine (HCK.out w2 (HB.out.trans (HB2.out.mono HB.out.size)) HBX2.out (HX.out.later HB2.out) HIN3.out).mono ?_; rintro e w3 ⟨rfl, hb3⟩)
        exact HQ.out _ _ (HB.out.trans ((HB2.out.trans (hb3.mono HB2.out.size)).mono HB.out.size)) (HNO.out _ HE.out (by simp))
      | false =>
        go_wp2_with (go_at_call 39; refine (HCK.out w2 (HB.out.trans (HB2.out.mono HB.out.size)) HBX2.out (HX.out.later HB2.out) HIN3.out).mono ?_; rintro e w3 ⟨rfl, hb3⟩)
        rw [← HP9.out]
        have HB3 := Lib.hid (HB2.out.trans (hb3.mono HB2.out.size))
        have HW3 := Lib.hid (HB.out.trans (HB3.out.mono HB.out.size))
        refine wp_of_ex (F := fun z => { tmps := (fr150 w.heap.size (.agg #[.slice a1 n n1, .slice a2 m n2]) (.slice sa ns cs) (.slice ta nt ct) undef undef (.slice sa ns cs) (.agg #[.slice sa ns cs, .func (.func 81) #[] #[]]) (.slice ta nt ct) (.agg #[.slice ta nt ct, .func (.func 82) #[] #[]]) undef undef undef (w.heap.size + 1 + 1) wr.heap.size k z).toArray, defers := [] }) (by apply fr150_act <;> rfl) fun z => ?_
        refine wp_mono (r9_150_walk w3 w.heap.size (.agg #[.slice a1 n n1, .slice a2 m n2]) (.slice sa ns cs) (.slice ta nt ct) undef undef (.slice sa ns cs) (.agg #[.slice sa ns cs, .func (.func 81) #[] #[]]) (.slice ta nt ct) (.agg #[.slice ta nt ct, .func (.func 82) #[] #[]]) undef undef undef (w.heap.size + 1 + 1) wr.heap.size k w.heap.size a nk c (.func (.func gk) #[] #[]) lk z (HBX2.out.later hb3) HNN.out (HSL.out.below HW3.out) HW3.out.size HNL.out d HD.out) ?_
        rintro e A w4 ⟨rfl, ⟨z', rfl⟩, hb4⟩
        have HW4 := Lib.hid (HW3.out.trans (hb4.mono HW3.out.size))
        have HB4 := Lib.hid (HB3.out.trans (hb4.mono HB3.out.size))
        clear hb3 hb4 y0 yz x0 x1 xz c0 c1 zz
        simp only [fr150d]
        cases d with
        | true =>
          go_wp2_with fail
          exact HQ.out _ _ HW4.out (HNO.out _ HE.out (by simp))
        | false =>
          go_wp2_with fail
          go_roundw
          case rel =>
            refine ⟨_, _, _, _, _, _, _, _, _, _, _, _, _, _, _, _, _, _, _, _, _, _, _, _, _, _, _, _, _, ?_, rfl⟩
            exact ⟨k + 1, by omega, by go_num, HW4.out, HX.out.later HB4.out, HY.out.later HB4.out, HZ.out.later HB4.out, HK.out.go HIN.out HE.out⟩
          case measure => simp [intOf]; omega
set_option maxRecDepth 100000 in
set_option maxHeartbeats 1000000 in
theorem checkBoth118 (w : World) (v1 v2 s t : Value) (p : Pl) (src snk : List Int) (hwd : WdR w) (hv : PlR w w.heap.size v1 v2 p) (hs : Sl encI 1 w w.heap.size s src) (ht : Sl encI 1 w w.heap.size t snk) :
    Calls Tryz.prog 45 #[.agg #[v1, v2], s, t] w (Ret (.int .i64 (bothE p src snk)) w) := by
  have HP := Lib.hid (fun (w1 : World) (hb : Below w.heap.size w w1) => ckPlant32 w1 _ _ p (hwd.later hb) (hv.later hb))
  have HE := Lib.hid (fun (w1 : World) (hb : Below w.heap.size w w1) (h : p.ms.length ≤ 64) => checkEnds150 w1 _ _ s t p src snk (hwd.later hb) (hv.later hb) h (hs.later hb) (ht.later hb))
  have HOK := Lib.hid (fun h : ckPlant p = 0 => (ckPlant_ok h).le)
  obtain ⟨a1, n1, a2, n2, rfl, rfl⟩ := hv.agg
  obtain ⟨sa, cs, rfl, _, _⟩ := id hs
  obtain ⟨ta, ct, rfl, _, _⟩ := id ht
  clear hwd hv hs ht
  have HB := Lib.hid ((Below.refl w.heap.size w).alloc (Nat.le_refl _) (.cells #[.slice a1 p.ms.length n1, .slice a2 p.arcs.length n2] 25))
  have HX := Lib.hid (Box.new w #[.slice a1 p.ms.length n1, .slice a2 p.arcs.length n2] 25)
  obtain ⟨V, hV⟩ : ∃ V, bothE p src snk = V := ⟨_, rfl⟩
  rw [hV]
  unfold bothE at hV
  have HV := Lib.hid hV
  clear hV
  obtain ⟨c, hc⟩ : ∃ c, ckPlant p = c := ⟨_, rfl⟩
  rw [hc] at HP HV HOK
  obtain ⟨n, hn⟩ : ∃ n, p.ms.length = n := ⟨_, rfl⟩
  obtain ⟨m, hm⟩ : ∃ n, p.arcs.length = n := ⟨_, rfl⟩
  obtain ⟨ns, hns⟩ : ∃ n, src.length = n := ⟨_, rfl⟩
  obtain ⟨nt, hnt⟩ : ∃ n, snk.length = n := ⟨_, rfl⟩
  rw [hn, hm] at HP HB HX
  rw [hn, hm, hns, hnt] at HE
  rw [hn] at HOK
  rw [hn, hm, hns, hnt]
  clear hn hm hns hnt hc
  go_enter Tryz.func45, Tryz.ntmps45
  by_cases h0 : c = 0
  · subst h0
    have HOK2 := Lib.hid (HOK.out rfl)
    have HV2 : Hid (endsE p src snk = V) := Lib.hid (by have := HV.out; rwa [if_neg (by simp)] at this)
    clear HOK HV
    go_wp2_with (first | (go_at_call 16; refine (HP.out _ HB.out).mono ?_; rintro e w2 ⟨rfl, hb2⟩; have HB2 := Lib.hid (HB.out.trans (hb2.mono HB.out.size)); have HX2 := Lib.hid (HX.out.later hb2); obtain ⟨x0, x1, xf, xz⟩ := HX2.out.v2; clear hb2) | (go_at_call 66; refine (HE.out _ HB2.out HOK2.out).mono ?_; rintro e w3 ⟨rfl, hb3⟩))
    go_ret
    exact ⟨by rw [HV2.out]; rfl, HB2.out.trans (hb3.mono HB2.out.size)⟩
  · have k0 : (c != 0) = true := bne_iff_ne.2 h0
    have HV2 : Hid (c = V) := Lib.hid (by have := HV.out; rwa [if_pos h0] at this)
    clear HOK HV h0
    go_wp2_with (go_at_call 16; refine (HP.out _ HB.out).mono ?_; rintro e w2 ⟨rfl, hb2⟩; have HB2 := Lib.hid (HB.out.trans (hb2.mono HB.out.size)); have HX2 := Lib.hid (HX.out.later hb2); obtain ⟨x0, x1, xf, xz⟩ := HX2.out.v2; clear hb2)
    go_ret
    exact ⟨by rw [HV2.out]; rfl, HB2.out⟩
end Go.Proofs.YtpafjhjpchdcdaaGreatDoor
/- Walks: most: the room of the arcs: the loop. -/
namespace Go.Proofs.YtpafjhjpchdcdaaGreatDoor
open Go Go.Proofs Go.RowKit Go.Shelf
theorem ixA_succ (p : Pl) (src snk : List Int) (k : Nat) (h : k < p.arcs.length) : ixA p src snk (k + 1) = if okArc p src snk p.arcs[k] then ixA p src snk k ++ [(2 * p.arcs[k].fr.toNat + 1) * 130 + 2 * p.arcs[k].to.toNat] else ixA p src snk k := by
  unfold ixA
  rw [take_snoc p.arcs k h, List.filter_append, List.map_append, List.filter_cons, List.filter_nil]
  cases okArc p src snk p.arcs[k] <;> simp
set_option maxRecDepth 100000 in
set_option maxHeartbeats 1000000 in
theorem m2_walk (w W : World) (fb N src snk : Nat) (s t : Value) (b1 off1 c1 : Nat) (v2 : Value) (p : Pl) (ls lt : List Int) (rm : List Int) (z : Nat → Value) (hok : OkP p) (hwd : WdR w) (hs : Sl encI 1 w w.heap.size s ls) (ht : Sl encI 1 w w.heap.size t lt)
    (hbb : b1 < w.heap.size) (hat : ∀ k (h : k < p.ms.length), At w b1 (off1 + k * 2) [.string p.ms[k].kind, .int .i64 p.ms[k].time]) (har : Sl Ar.enc 2 w w.heap.size v2 p.arcs)
    (hm : MoM w W fb N (.slice (some ⟨b1, off1, none⟩) p.ms.length c1) v2 rm) (Q : Exit → Act → World → Prop)
    (hQ : ∀ z' W', MoM w W' fb N (.slice (some ⟨b1, off1, none⟩) p.ms.length c1) v2 (setAll 2 (ixA p ls lt p.arcs.length) rm) → Q .normal { tmps := (fr119 w.heap.size s t fb src snk z').toArray, defers := [] } W') :
    m2_119.wp Tryz.prog Q { tmps := (fr119 w.heap.size s t fb src snk z).toArray, defers := [] } W := by
  have HQ : Hid (∀ A W', (∃ z', A = { tmps := (fr119 w.heap.size s t fb src snk z').toArray, defers := [] }) → MoM w W' fb N (.slice (some ⟨b1, off1, none⟩) p.ms.length c1) v2 (setAll 2 (ixA p ls lt p.arcs.length) rm) → Q .normal A W') := Lib.hid (by rintro A W' ⟨z', rfl⟩ h; exact hQ z' W' h)
  clear hQ
  have HM := Lib.hid hm
  have HWD := Lib.hid hwd
  have HS := Lib.hid hs
  have HTT := Lib.hid ht
  have HOK := Lib.hid hok
  have HAT := Lib.hid hat
  obtain ⟨a2, c2, rfl, ⟨hl2, _⟩, hA2⟩ := har
  have HA2 := Lib.hid hA2
  have x0 := hm.px.cell 1
  have xz := hm.px.lt
  simp only [List.getElem?_cons_zero, List.getElem?_cons_succ] at x0
  have hn64 := hok.le
  obtain ⟨na, hna⟩ : ∃ n, p.arcs.length = n := ⟨_, rfl⟩
  obtain ⟨n, hn⟩ : ∃ n, p.ms.length = n := ⟨_, rfl⟩
  rw [hn] at HM HQ hn64
  rw [hna] at HM HQ x0 hl2
  have HNA := Lib.hid hna
  have HNN := Lib.hid hn
  obtain ⟨P11, hP11⟩ : ∃ q, r11_119 = q := ⟨_, rfl⟩
  have HP11 := Lib.hid hP11
  simp only [r11_119, x2_119, rd2_119, m2_119, c119, Tryz.f46, Option.getD, codeL, codeR] at hP11
  have HL11 := Lib.hid hP11
  obtain ⟨P12, hP12⟩ : ∃ q, r12_119 = q := ⟨_, rfl⟩
  have HP12 := Lib.hid hP12
  simp only [r12_119, x2_119, rd2_119, m2_119, c119, Tryz.f46, Option.getD, codeL, codeR] at hP12
  have HL12 := Lib.hid hP12
  clear hm hwd hs ht hok hat hA2 hna hn hP11 hP12
  simp only [m2_119, c119, Tryz.f46, Option.getD, codeL, codeR, fr119]
  go_wp2_with fail
  go_loopw [59] (fun i wr => ∃ k : Nat, k ≤ na ∧ i = .int .i64 k ∧ MoM w wr fb N (.slice (some ⟨b1, off1, none⟩) n c1) (.slice a2 na c2) (setAll 2 (ixA p ls lt k) rm)) (fun i _ => na - (intOf i).toNat)
  case atStart => exact ⟨0, by omega, rfl, by simpa [setAll, ixA] using HM.out⟩
  case round =>
    clear x0 xz HM
    obtain ⟨k, hk, rfl, hm⟩ := hrel
    by_cases hlt : k < na
    rotate_left
    · obtain rfl : na = k := by omega
      have HM := Lib.hid hm
      clear hm
      go_wp2_with fail
      refine HQ.out _ _ ?_ HM.out
      apply fr119_act <;> rfl
    have hkl : k < p.arcs.length := by rw [HNA.out]; exact hlt
    obtain ⟨b, off, rfl, hbb2, hcells⟩ := HA2.out (by omega)
    obtain ⟨c0, c0'⟩ := ((hcells k hkl).below hm.bw hbb2).c2
    have hbz : b < wr.heap.size := Nat.lt_of_lt_of_le hbb2 hm.bw.size
    obtain ⟨i1, i2, i3, _, _⟩ := HOK.out.ins _ (List.getElem_mem hkl)
    obtain ⟨f, hf, hfn⟩ := inN_nat i1
    obtain ⟨g, hg, hgn⟩ := inN_nat i2
    have HT : Hid (setAll 2 (ixA p ls lt (k + 1)) rm = if okArc p ls lt p.arcs[k] then (setAll 2 (ixA p ls lt k) rm).set ((2 * f + 1) * 130 + 2 * g) 2 else setAll 2 (ixA p ls lt k) rm) := Lib.hid (by
      rw [ixA_succ p ls lt k hkl, hf, hg, Int.toNat_natCast, Int.toNat_natCast]
      split
      · rw [setAll_snoc]
      · rfl)
    obtain ⟨R, hR⟩ : ∃ R, okArc p ls lt p.arcs[k] = R := ⟨_, rfl⟩
    have HR : Hid (((cvB p.ms[f].kind || ls.contains (f : Int)) && (cvB p.ms[g].kind || lt.contains (g : Int))) = R) := Lib.hid (by rw [← hR]; unfold okArc; rw [hf, hg, kdA_nat hfn, kdA_nat hgn])
    rw [hR] at HT
    rw [hf] at c0
    rw [hg] at c0'
    have HM := Lib.hid hm
    have hfz := hm.fl.lt
    clear hm hR hcells i1 i2 i3 hf hg
    have HNW := Lib.hid (Box.new wr #[.int .i64 (f : Int), .int .i64 (g : Int)] 85)
    have HMA := Lib.hid (HM.out.later ((Below.refl wr.heap.size wr).alloc (Nat.le_refl _) (.cells #[.int .i64 (f : Int), .int .i64 (g : Int)] 85)))
    rw [HL11.out, HL12.out]
    go_wp2_with fail
    have hfn' : f < n := by rw [← HNN.out]; exact hfn
    have hgn' : g < n := by rw [← HNN.out]; exact hgn
    rw [← HP11.out]
    refine wp_of_ex (F := fun y => { tmps := (fq119 w.heap.size s t fb src snk wr.heap.size na k (.slice (some ⟨b, off, none⟩) na c2) u14 u15 z y).toArray, defers := [] }) ⟨fun i => [_, _, _, _, _, _, _, _, _, _, _, _, _, _, _, _, _, _, _, _, _, _, _, _, _, _, _, _, _, _, _, _, _, _, _, _, _, _, _, _, _, _, _, _, _].getD (i - 60) undef, rfl⟩ fun y => ?_
    have hB0 := HMA.out.bw
    refine wp_mono (r11m_walk _ w.heap.size s t fb src snk wr.heap.size na k _ _ _ z y b1 off1 n c1 f g _ _ _ _ _ HMA.out.px HNW.out (by omega) (by omega) hn64 ((HAT.out f hfn).below hB0 hbb) ((HAT.out g hgn).below hB0 hbb) (Nat.lt_of_lt_of_le hbb hB0.size)) ?_
    rintro e A w3 ⟨rfl, b14, b15, y', rfl, h14, h15, hb3⟩
    have HM3 := Lib.hid (HMA.out.later hb3)
    have HN3 := Lib.hid (HNW.out.later hb3)
    clear hb3 hB0
    go_wp2_with fail
    rw [← HP12.out]
    refine r12m_walk w w3 w.heap.size s t fb src snk wr.heap.size na k _ b14 b15 z y' f g _ _ _ _ ls lt R HWD.out HM3.out.bw HS.out HTT.out HN3.out h14 h15 HR.out _ ?_
    intro y2 w4 hb4
    have HM4 := Lib.hid (HM3.out.later hb4)
    obtain ⟨n0, n1, nf, nz⟩ := (HN3.out.later hb4).v2
    clear hb4 h14 h15
    simp only [fr119d]
    cases R with
    | false =>
      have HT2 : Hid (setAll 2 (ixA p ls lt (k + 1)) rm = setAll 2 (ixA p ls lt k) rm) := Lib.hid (by rw [HT.out]; simp)
      go_wp2_with fail
      exact ⟨⟨k + 1, by omega, by go_num, by rw [HT2.out]; exact HM4.out⟩, by simp [intOf]; omega⟩
    | true =>
      have HT2 : Hid (setAll 2 (ixA p ls lt (k + 1)) rm = (setAll 2 (ixA p ls lt k) rm).set ((2 * f + 1) * 130 + 2 * g) 2) := Lib.hid (by rw [HT.out]; simp)
      have hf64 : f < 64 := by omega
      have hg64 : g < 64 := by omega
      obtain ⟨e1, he1⟩ : ∃ e, 2 * f + 1 = e := ⟨_, rfl⟩
      obtain ⟨e2, he2⟩ : ∃ e, 2 * g = e := ⟨_, rfl⟩
      rw [he1, he2] at HT2
      have HE1 := Lib.hid (fun w => exitN f e1 he1 (by omega) w)
      have HE2 := Lib.hid (fun w => entryN g e2 he2 (by omega) w)
      have h1 : (e1 : Int) < 130 := by omega
      have h2 : (e2 : Int) < 130 := by omega
      have HH : Hid (e1 < 130 ∧ e2 < 130) := Lib.hid (by omega)
      have HFX : Hid (∀ W', Below w4.heap.size w4 W' → MoM w W' fb N (.slice (some ⟨b1, off1, none⟩) n c1) (.slice (some ⟨b, off, none⟩) na c2) (setAll 2 (ixA p ls lt k) rm)) := Lib.hid (fun W' hb => HM4.out.later hb)
      have fz := HM4.out.fl.lt
      clear he1 he2 hf64 hg64
      go_wp2_with fail
      refine wp_region_head_later 11 (by kernel_rfl) (by kernel_rfl) ?_
      simp only [List.take_succ_cons, List.take_zero, List.drop_succ_cons, List.drop_zero]
      repeat go_big_quiet_step ((first | (go_at_call 68; exact Calls.later_same (HE1.out _)) | (go_at_call 67; exact Calls.later_same (HE2.out _))))
      refine wpQuiet_nil ?_
      rintro w2 ⟨⟨_, hb2⟩, rfl⟩
      have hm2 := HFX.out _ hb2
      have hc := (hm2.fl.cell (e1 * 130 + e2)).trans (roomV_get N hm2.len HH.out.1 HH.out.2)
      have hf := hm2.fl.frozen
      have hz := hm2.fl.lt
      have HM2 := Lib.hid hm2
      clear hm2
      go_wp2_with fail
      exact ⟨⟨k + 1, by omega, by go_num, by rw [HT2.out]; exact HM2.out.set HH.out.1 HH.out.2 2⟩, by simp [intOf]; omega⟩
end Go.Proofs.YtpafjhjpchdcdaaGreatDoor
