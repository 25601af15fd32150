/- Lemmas on the way to the laws (part 17): Cc Cr Cd -/
import Derived.Test.YtahpdkkpnkhnhaaGreatDoorLib16
import Derived.RegionTactic
import Derived.BigRegion
import Derived.Sort.BigQuietIn
set_option linter.unusedVariables false
set_option linter.unusedSimpArgs false

/- Walks: Route: what it keeps in memory; the choice of the next machine. -/
namespace Go.Proofs.YtahpdkkpnkhnhaaGreatDoor
open Go Go.Proofs Go.RowKit Go.Shelf

/-- What a search keeps: the least times found and 1 more, the machines before, those that are done. -/
structure RtS where
  best : List Int
  before : List Int
  done : List Bool
def pickS (s : RtS) (m : Int) (k : Nat) : Int := if 0 < s.best.getD k 0 ∧ s.done.getD k false = false ∧ (m < 0 ∨ s.best.getD k 0 < s.best.getD m.toNat 0) then k else m
def pickTo (s : RtS) : Nat → Int
  | 0 => -1
  | k + 1 => pickS s (pickTo s k) k
theorem pickTo_bd (s : RtS) : ∀ k, -1 ≤ pickTo s k ∧ pickTo s k < k
  | 0 => by simp [pickTo]
  | k + 1 => by
    have h := pickTo_bd s k
    unfold pickTo pickS
    split <;> omega
structure RtB (M : Int) (s : RtS) : Prop where
  l1 : s.best.length = 64
  l2 : s.before.length = 64
  l3 : s.done.length = 64
  b1 : ∀ x ∈ s.best, 0 ≤ x ∧ x ≤ M
  b2 : ∀ x ∈ s.before, 0 ≤ x ∧ x < 64
def ints (l : List Int) : List Value := l.map fun x => .int .i64 x
/-- .. in memory. -/
structure RtM (w W : World) (bb : Nat) (v1 v2 vb : Value) (to : Int) (s : RtS) : Prop where
  px : Box W w.heap.size 25 [v1, v2]
  tx : Box W (w.heap.size + 1) 3 [.int .i64 to]
  kx : Box W (w.heap.size + 1 + 1) 26 [vb]
  be : Box W bb 117 (ints s.best)
  bf : Box W (bb + 1) 117 (ints s.before)
  dn : Box W (bb + 1 + 1) 118 (s.done.map Value.bool)
  bw : Below w.heap.size w W
  bg : w.heap.size + 1 + 1 < bb
theorem RtM.later {w W W' : World} {bb : Nat} {v1 v2 vb : Value} {to : Int} {s : RtS} (h : RtM w W bb v1 v2 vb to s) (hb : Below W.heap.size W W') : RtM w W' bb v1 v2 vb to s :=
  ⟨h.px.later hb, h.tx.later hb, h.kx.later hb, h.be.later hb, h.bf.later hb, h.dn.later hb, h.bw.trans (hb.mono h.bw.size), h.bg⟩
theorem RtM.other {w W : World} {bb : Nat} {v1 v2 vb : Value} {to : Int} {s : RtS} (h : RtM w W bb v1 v2 vb to s) {a : Addr} (u : Value) (h1 : bb + 1 + 1 < a.block) : RtM w (W.setCell a u) bb v1 v2 vb to s :=
  have := h.bg
  ⟨h.px.other u (by omega), h.tx.other u (by omega), h.kx.other u (by omega), h.be.other u (by omega), h.bf.other u (by omega), h.dn.other u (by omega), h.bw.setCell (by omega) u, h.bg⟩
theorem ints_get {l : List Int} {k : Nat} (h : k < l.length) : (ints l)[k]? = some (.int .i64 (l.getD k 0)) := by
  unfold ints; rw [List.getElem?_map, List.getElem?_eq_getElem h, getD_at l k h]; rfl
theorem bools_get {l : List Bool} {k : Nat} (h : k < l.length) : (l.map Value.bool)[k]? = some (.bool (l.getD k false)) := by
  rw [List.getElem?_map, List.getElem?_eq_getElem h, List.getD_eq_getElem?_getD, List.getElem?_eq_getElem h]; rfl
def fr18 (N bb : Nat) (fr : Int) (z : Nat → Value) : List Value := [z 0, .int .i64 fr, z 2, z 3, .pointer (some ⟨N, 0, none⟩), z 5, .pointer (some ⟨N + 1, 0, none⟩), .pointer (some ⟨N + 1 + 1, 0, none⟩), z 8, z 9, z 10, z 11, .pointer (some ⟨bb, 0, none⟩), .pointer (some ⟨bb + 1, 0, none⟩), .pointer (some ⟨bb + 1 + 1, 0, none⟩), z 15, z 16, z 17, z 18, z 19, z 20, z 21, z 22, z 23, z 24, z 25, z 26, z 27, z 28, z 29, z 30, z 31, z 32, z 33, z 34, z 35, z 36, z 37, z 38, z 39, z 40, z 41, z 42, z 43, z 44, z 45, z 46, z 47, z 48, z 49, z 50, z 51, z 52, z 53, z 54, z 55, z 56, z 57, z 58, z 59, z 60, z 61, z 62, z 63, z 64, z 65, z 66, z 67, z 68, z 69, z 70, z 71, z 72, z 73, z 74, z 75, z 76, z 77, z 78, z 79, z 80, z 81, z 82, z 83, z 84, z 85, z 86, z 87, z 88, z 89, z 90, z 91, z 92, z 93, z 94, z 95, z 96, z 97, z 98, z 99, z 100, z 101, z 102, z 103, z 104, z 105, z 106, z 107, z 108, z 109, z 110, z 111, z 112, z 113, z 114, z 115, z 116, z 117, z 118, z 119, z 120, z 121, z 122, z 123, z 124, z 125, z 126, z 127, z 128, z 129, z 130, z 131, z 132, z 133, z 134, z 135, z 136, z 137, z 138, z 139, z 140, z 141, z 142, z 143, z 144, z 145, z 146, z 147, z 148, z 149, z 150, z 151, z 152, z 153, z 154, z 155, z 156, z 157, z 158, z 159, z 160, z 161, z 162, z 163, z 164, z 165, z 166, z 167, z 168, z 169, z 170, z 171, z 172]
theorem fr18_of (N bb : Nat) (fr : Int) (L : List Value) (hL : L.length = 173) (h1 : L[1]? = some (.int .i64 fr)) (h4 : L[4]? = some (.pointer (some ⟨N, 0, none⟩))) (h6 : L[6]? = some (.pointer (some ⟨N + 1, 0, none⟩))) (h7 : L[7]? = some (.pointer (some ⟨N + 1 + 1, 0, none⟩))) (h12 : L[12]? = some (.pointer (some ⟨bb, 0, none⟩))) (h13 : L[13]? = some (.pointer (some ⟨bb + 1, 0, none⟩))) (h14 : L[14]? = some (.pointer (some ⟨bb + 1 + 1, 0, none⟩))) : ∃ z, L = fr18 N bb fr z := by
  refine ⟨fun i => L.getD i undef, ?_⟩
  unfold fr18
  have e := list_range L 173 hL
  have e1 : L.getD 1 undef = .int .i64 fr := by rw [List.getD_eq_getElem?_getD, h1]; rfl
  have e4 : L.getD 4 undef = .pointer (some ⟨N, 0, none⟩) := by rw [List.getD_eq_getElem?_getD, h4]; rfl
  have e6 : L.getD 6 undef = .pointer (some ⟨N + 1, 0, none⟩) := by rw [List.getD_eq_getElem?_getD, h6]; rfl
  have e7 : L.getD 7 undef = .pointer (some ⟨N + 1 + 1, 0, none⟩) := by rw [List.getD_eq_getElem?_getD, h7]; rfl
  have e12 : L.getD 12 undef = .pointer (some ⟨bb, 0, none⟩) := by rw [List.getD_eq_getElem?_getD, h12]; rfl
  have e13 : L.getD 13 undef = .pointer (some ⟨bb + 1, 0, none⟩) := by rw [List.getD_eq_getElem?_getD, h13]; rfl
  have e14 : L.getD 14 undef = .pointer (some ⟨bb + 1 + 1, 0, none⟩) := by rw [List.getD_eq_getElem?_getD, h14]; rfl
  rw [← e1, ← e4, ← e6, ← e7, ← e12, ← e13, ← e14]
  exact e
theorem fr18_act (N bb : Nat) (fr : Int) (A : Act) (ds : List Deferred) (hds : A.defers = ds) (hL : A.tmps.size = 173) (h1 : A.tmps[1]? = some (.int .i64 fr)) (h4 : A.tmps[4]? = some (.pointer (some ⟨N, 0, none⟩))) (h6 : A.tmps[6]? = some (.pointer (some ⟨N + 1, 0, none⟩))) (h7 : A.tmps[7]? = some (.pointer (some ⟨N + 1 + 1, 0, none⟩))) (h12 : A.tmps[12]? = some (.pointer (some ⟨bb, 0, none⟩))) (h13 : A.tmps[13]? = some (.pointer (some ⟨bb + 1, 0, none⟩))) (h14 : A.tmps[14]? = some (.pointer (some ⟨bb + 1 + 1, 0, none⟩))) : ∃ z, A = { tmps := (fr18 N bb fr z).toArray, defers := ds } := by
  obtain ⟨z, e⟩ := fr18_of N bb fr A.tmps.toList (by rw [Array.length_toList]; exact hL) (by rw [Array.getElem?_toList]; exact h1) (by rw [Array.getElem?_toList]; exact h4) (by rw [Array.getElem?_toList]; exact h6) (by rw [Array.getElem?_toList]; exact h7) (by rw [Array.getElem?_toList]; exact h12) (by rw [Array.getElem?_toList]; exact h13) (by rw [Array.getElem?_toList]; exact h14)
  exact ⟨z, by cases A; subst hds; dsimp only at e ⊢; rw [← e]⟩

def fr18m (N bb : Nat) (fr : Int) (mb : Nat) (z : Nat → Value) : List Value := [z 0, .int .i64 fr, z 2, z 3, .pointer (some ⟨N, 0, none⟩), z 5, .pointer (some ⟨N + 1, 0, none⟩), .pointer (some ⟨N + 1 + 1, 0, none⟩), z 8, z 9, z 10, z 11, .pointer (some ⟨bb, 0, none⟩), .pointer (some ⟨bb + 1, 0, none⟩), .pointer (some ⟨bb + 1 + 1, 0, none⟩), .pointer (some ⟨mb, 0, none⟩), z 16, z 17, z 18, z 19, z 20, z 21, z 22, z 23, z 24, z 25, z 26, z 27, z 28, z 29, z 30, z 31, z 32, z 33, z 34, z 35, z 36, z 37, z 38, z 39, z 40, z 41, z 42, z 43, z 44, z 45, z 46, z 47, z 48, z 49, z 50, z 51, z 52, z 53, z 54, z 55, z 56, z 57, z 58, z 59, z 60, z 61, z 62, z 63, z 64, z 65, z 66, z 67, z 68, z 69, z 70, z 71, z 72, z 73, z 74, z 75, z 76, z 77, z 78, z 79, z 80, z 81, z 82, z 83, z 84, z 85, z 86, z 87, z 88, z 89, z 90, z 91, z 92, z 93, z 94, z 95, z 96, z 97, z 98, z 99, z 100, z 101, z 102, z 103, z 104, z 105, z 106, z 107, z 108, z 109, z 110, z 111, z 112, z 113, z 114, z 115, z 116, z 117, z 118, z 119, z 120, z 121, z 122, z 123, z 124, z 125, z 126, z 127, z 128, z 129, z 130, z 131, z 132, z 133, z 134, z 135, z 136, z 137, z 138, z 139, z 140, z 141, z 142, z 143, z 144, z 145, z 146, z 147, z 148, z 149, z 150, z 151, z 152, z 153, z 154, z 155, z 156, z 157, z 158, z 159, z 160, z 161, z 162, z 163, z 164, z 165, z 166, z 167, z 168, z 169, z 170, z 171, z 172]
theorem fr18m_of (N bb : Nat) (fr : Int) (mb : Nat) (L : List Value) (hL : L.length = 173) (h1 : L[1]? = some (.int .i64 fr)) (h4 : L[4]? = some (.pointer (some ⟨N, 0, none⟩))) (h6 : L[6]? = some (.pointer (some ⟨N + 1, 0, none⟩))) (h7 : L[7]? = some (.pointer (some ⟨N + 1 + 1, 0, none⟩))) (h12 : L[12]? = some (.pointer (some ⟨bb, 0, none⟩))) (h13 : L[13]? = some (.pointer (some ⟨bb + 1, 0, none⟩))) (h14 : L[14]? = some (.pointer (some ⟨bb + 1 + 1, 0, none⟩))) (h15 : L[15]? = some (.pointer (some ⟨mb, 0, none⟩))) : ∃ z, L = fr18m N bb fr mb z := by
  refine ⟨fun i => L.getD i undef, ?_⟩
  unfold fr18m
  have e := list_range L 173 hL
  have e1 : L.getD 1 undef = .int .i64 fr := by rw [List.getD_eq_getElem?_getD, h1]; rfl
  have e4 : L.getD 4 undef = .pointer (some ⟨N, 0, none⟩) := by rw [List.getD_eq_getElem?_getD, h4]; rfl
  have e6 : L.getD 6 undef = .pointer (some ⟨N + 1, 0, none⟩) := by rw [List.getD_eq_getElem?_getD, h6]; rfl
  have e7 : L.getD 7 undef = .pointer (some ⟨N + 1 + 1, 0, none⟩) := by rw [List.getD_eq_getElem?_getD, h7]; rfl
  have e12 : L.getD 12 undef = .pointer (some ⟨bb, 0, none⟩) := by rw [List.getD_eq_getElem?_getD, h12]; rfl
  have e13 : L.getD 13 undef = .pointer (some ⟨bb + 1, 0, none⟩) := by rw [List.getD_eq_getElem?_getD, h13]; rfl
  have e14 : L.getD 14 undef = .pointer (some ⟨bb + 1 + 1, 0, none⟩) := by rw [List.getD_eq_getElem?_getD, h14]; rfl
  have e15 : L.getD 15 undef = .pointer (some ⟨mb, 0, none⟩) := by rw [List.getD_eq_getElem?_getD, h15]; rfl
  rw [← e1, ← e4, ← e6, ← e7, ← e12, ← e13, ← e14, ← e15]
  exact e
theorem fr18m_act (N bb : Nat) (fr : Int) (mb : Nat) (A : Act) (ds : List Deferred) (hds : A.defers = ds) (hL : A.tmps.size = 173) (h1 : A.tmps[1]? = some (.int .i64 fr)) (h4 : A.tmps[4]? = some (.pointer (some ⟨N, 0, none⟩))) (h6 : A.tmps[6]? = some (.pointer (some ⟨N + 1, 0, none⟩))) (h7 : A.tmps[7]? = some (.pointer (some ⟨N + 1 + 1, 0, none⟩))) (h12 : A.tmps[12]? = some (.pointer (some ⟨bb, 0, none⟩))) (h13 : A.tmps[13]? = some (.pointer (some ⟨bb + 1, 0, none⟩))) (h14 : A.tmps[14]? = some (.pointer (some ⟨bb + 1 + 1, 0, none⟩))) (h15 : A.tmps[15]? = some (.pointer (some ⟨mb, 0, none⟩))) : ∃ z, A = { tmps := (fr18m N bb fr mb z).toArray, defers := ds } := by
  obtain ⟨z, e⟩ := fr18m_of N bb fr mb A.tmps.toList (by rw [Array.length_toList]; exact hL) (by rw [Array.getElem?_toList]; exact h1) (by rw [Array.getElem?_toList]; exact h4) (by rw [Array.getElem?_toList]; exact h6) (by rw [Array.getElem?_toList]; exact h7) (by rw [Array.getElem?_toList]; exact h12) (by rw [Array.getElem?_toList]; exact h13) (by rw [Array.getElem?_toList]; exact h14) (by rw [Array.getElem?_toList]; exact h15)
  exact ⟨z, by cases A; subst hds; dsimp only at e ⊢; rw [← e]⟩

noncomputable def blk18 : Code := codeL (codeR (codeR (codeR (codeR (codeR (codeR (codeR (Tryz.f18.body.getD .skip))))))))
noncomputable def rest18 : Code := codeR (codeR (codeR (codeR (codeR (codeR (codeR (codeR (Tryz.f18.body.getD .skip))))))))
noncomputable def rnd18 : Code := codeL (codeL blk18)
noncomputable def in18 : Code := codeL rnd18
noncomputable def pk18 : Code := codeL (codeR in18)
theorem blk18_eq : blk18 = .block 0 (.loop rnd18) := rfl
theorem rnd18_eq : rnd18 = .block 1 in18 := rfl
theorem in18_eq : in18 = .seq (codeL in18) (.seq pk18 (codeR (codeR in18))) := rfl

set_option maxRecDepth 100000 in
set_option maxHeartbeats 1000000 in
theorem pk18_walk (w W : World) (bb mb : Nat) (v1' : Option Addr) (n c1 : Nat) (v2 vb : Value) (to fr : Int) (s : RtS) (M : Int) (hm : RtM w W bb (.slice v1' n c1) v2 vb to s) (hb : RtB M s) (hn : n ≤ 64) (hmb : bb + 1 + 1 < mb) (hx : Box W mb 3 [.int .i64 (-1)]) (ds : List Deferred) (z : Nat → Value) (Q : Exit → Act → World → Prop)
    (hQ : ∀ z' W', RtM w W' bb (.slice v1' n c1) v2 vb to s → Box W' mb 3 [.int .i64 (pickTo s n)] → KeepsOthers W W' → W.heap.size ≤ W'.heap.size → Q .normal { tmps := (fr18m w.heap.size bb fr mb z').toArray, defers := ds } W') :
    pk18.wp Tryz.prog Q { tmps := (fr18m w.heap.size bb fr mb z).toArray, defers := ds } W := by
  have HQ : Hid (∀ A W', (∃ z', A = { tmps := (fr18m w.heap.size bb fr mb z').toArray, defers := ds }) → RtM w W' bb (.slice v1' n c1) v2 vb to s → Box W' mb 3 [.int .i64 (pickTo s n)] → KeepsOthers W W' → W.heap.size ≤ W'.heap.size → Q .normal A W') := Lib.hid (by rintro A W' ⟨z', rfl⟩; exact hQ z' W')
  have HM := Lib.hid hm
  have HB := Lib.hid hb
  have HX := Lib.hid hx
  clear hQ hm hb hx
  obtain ⟨x0, x1, xf, xz⟩ := HM.out.px.v2
  simp only [pk18, in18, rnd18, blk18, Tryz.f18, Option.getD, codeL, codeR, fr18m]
  go_wp2_with fail
  go_loopw [72] (fun i wr => ∃ k : Nat, k ≤ n ∧ i = .int .i64 k ∧ RtM w wr bb (.slice v1' n c1) v2 vb to s ∧ Box wr mb 3 [.int .i64 (pickTo s k)] ∧ KeepsOthers W wr ∧ W.heap.size ≤ wr.heap.size) (fun i _ => n - (intOf i).toNat)
  case atStart => exact ⟨0, by omega, rfl, HM.out, HX.out, KeepsOthers.refl _, Nat.le_refl _⟩
  case round =>
    clear x0 x1 xf xz HX
    obtain ⟨k, hk, rfl, hm, hx, hko, hsz⟩ := hrel
    have HM2 := Lib.hid hm
    have HX2 := Lib.hid hx
    have HKO := Lib.hid hko
    have HSZ := Lib.hid hsz
    clear hm hx hko hsz
    by_cases hlt : k < n
    rotate_left
    · obtain rfl : n = k := by omega
      go_wp2_with fail
      refine HQ.out _ _ ?_ HM2.out HX2.out HKO.out HSZ.out
      apply fr18m_act <;> rfl
    have hk1 : k < s.best.length := by rw [HB.out.l1]; omega
    have hk3 : k < s.done.length := by rw [HB.out.l3]; omega
    have c0 : wr.cell? ⟨bb, k, none⟩ = some (.int .i64 (s.best.getD k 0)) := (HM2.out.be.cell k).trans (ints_get hk1)
    have d0 : wr.cell? ⟨bb + 1 + 1, k, none⟩ = some (.bool (s.done.getD k false)) := (HM2.out.dn.cell k).trans (bools_get hk3)
    have m0 := HX2.out.cell 0
    have mz := HX2.out.lt
    have mf := HX2.out.frozen
    have bz := HM2.out.be.lt
    have dz := HM2.out.dn.lt
    simp only [List.getElem?_cons_zero] at m0
    obtain ⟨hp0, hp1⟩ := pickTo_bd s k
    have HPS := Lib.hid (show pickTo s (k + 1) = pickS s (pickTo s k) k from rfl)
    unfold pickS at HPS
    obtain ⟨bk, hbk⟩ : ∃ b, s.best.getD k 0 = b := ⟨_, rfl⟩
    obtain ⟨dk, hdk⟩ : ∃ b, s.done.getD k false = b := ⟨_, rfl⟩
    have HBM : Hid (∀ j : Nat, j < n → wr.cell? ⟨bb, j, none⟩ = some (.int .i64 (s.best.getD j 0))) := Lib.hid (fun j hj => (HM2.out.be.cell j).trans (ints_get (by rw [HB.out.l1]; omega)))
    rw [hbk] at c0 HPS
    rw [hdk] at d0 HPS
    generalize pickTo s k = pm at *
    clear hbk hdk hk1 hk3
    have HLN := Lib.hid (fun nq => HM2.out.later (below_drewN (Below.refl _ _) nq))
    have HXN := Lib.hid (fun nq => HX2.out.later (below_drewN (Below.refl _ _) nq))
    have HKN : Hid (∀ nq, KeepsOthers wr (wr.drewN nq)) := Lib.hid (fun nq => ⟨(below_drewN (Below.refl wr.heap.size wr) nq).size, fun i o hi _ => ((below_drewN (Below.refl wr.heap.size wr) nq).block i (Array.getElem?_eq_some_iff.1 hi).1).trans hi⟩)
    by_cases hb0 : 0 < bk
    rotate_left
    · have k1 : decide (0 < bk) = false := decide_eq_false hb0
      rw [if_neg (fun h => hb0 h.1)] at HPS
      clear hb0
      go_wp2_with fail
      go_quiet (fail)
      go_wp2_with fail
      go_roundw
      case rel => exact ⟨k + 1, by omega, by go_num, HLN.out _, by rw [HPS.out]; exact HXN.out _, HKO.out.trans (HKN.out _), Nat.le_trans HSZ.out (HKN.out _).size⟩
      case measure => simp [intOf]; omega
    have k1 : decide (0 < bk) = true := decide_eq_true hb0
    cases dk with
    | true =>
      rw [if_neg (fun h => by cases h.2.1)] at HPS
      clear hb0
      go_wp2_with fail
      go_quiet (fail)
      go_wp2_with fail
      go_roundw
      case rel => exact ⟨k + 1, by omega, by go_num, HLN.out _, by rw [HPS.out]; exact HXN.out _, HKO.out.trans (HKN.out _), Nat.le_trans HSZ.out (HKN.out _).size⟩
      case measure => simp [intOf]; omega
    | false =>
    by_cases hm0 : pm < 0
    · have k2 : decide (pm < 0) = true := decide_eq_true hm0
      rw [if_pos ⟨hb0, rfl, .inl hm0⟩] at HPS
      clear hb0 hm0
      go_wp2_with fail
      go_quiet (fail)
      have n0 := (HXN.out nq).cell 0
      have nf := (HXN.out nq).frozen
      simp only [List.getElem?_cons_zero] at n0
      go_wp2_with fail
      go_roundw
      case rel => exact ⟨k + 1, by omega, by go_num, (HLN.out _).other _ hmb, by rw [HPS.out]; exact (HXN.out _).set 0 _, (HKO.out.trans (HKN.out _)).trans (KeepsOthers.setCell _ _ _), by simp only [World.size_setCell]; exact Nat.le_trans HSZ.out (HKN.out _).size⟩
      case measure => simp [intOf]; omega
    have k2 : decide (pm < 0) = false := decide_eq_false hm0
    obtain ⟨mm, rfl⟩ : ∃ mm : Nat, pm = mm := ⟨pm.toNat, by omega⟩
    have c1 := HBM.out mm (by omega)
    rw [Int.toNat_natCast] at HPS
    generalize s.best.getD mm 0 = bm at *
    have hmm64 : (mm : Int) < 64 := by omega
    by_cases hlm : bk < bm
    · have k3 : decide (bk < bm) = true := decide_eq_true hlm
      rw [if_pos ⟨hb0, rfl, .inr hlm⟩] at HPS
      clear hb0 hm0 hlm
      go_wp2_with fail
      go_quiet (fail)
      have n0 := (HXN.out nq).cell 0
      have nf := (HXN.out nq).frozen
      simp only [List.getElem?_cons_zero] at n0
      go_wp2_with fail
      go_roundw
      case rel => exact ⟨k + 1, by omega, by go_num, (HLN.out _).other _ hmb, by rw [HPS.out]; exact (HXN.out _).set 0 _, (HKO.out.trans (HKN.out _)).trans (KeepsOthers.setCell _ _ _), by simp only [World.size_setCell]; exact Nat.le_trans HSZ.out (HKN.out _).size⟩
      case measure => simp [intOf]; omega
    · have k3 : decide (bk < bm) = false := decide_eq_false hlm
      rw [if_neg (fun h => h.2.2.elim hm0 hlm)] at HPS
      clear hb0 hm0 hlm
      go_wp2_with fail
      go_quiet (fail)
      go_wp2_with fail
      go_roundw
      case rel => exact ⟨k + 1, by omega, by go_num, HLN.out _, by rw [HPS.out]; exact HXN.out _, HKO.out.trans (HKN.out _), Nat.le_trans HSZ.out (HKN.out _).size⟩
      case measure => simp [intOf]; omega
end Go.Proofs.YtahpdkkpnkhnhaaGreatDoor

/- A drawn quiet region inside a round: the kit's theorem of one walk (Derived/Sort/QuietThIn.lean) with another condition: no operation of the region is a defer statement. -/
namespace Go.Proofs.YtahpdkkpnkhnhaaGreatDoor
open Go Go.Proofs Go.RowKit

section
variable {F : Fence} {n : Nat} {P : Program} {ops : Array Oper} {md : Region.Mode} {C : World → Prop}

theorem opIn_of_quietR {o : Oper} {a : Act} {K : Act → Prop} {K' : Act → World → Prop} {Q' : Exit → Act → World → Prop} {w : World} (hnd : ∀ c, o.op ≠ .defer c) (hw : C w) (h : ∀ a w', C w' → K a → K' a w')
    (ha : o.askedIn F P a C) (hh : o.quietIn F n P a C K) : o.wpIn F n P a w K' Q' := by
  obtain ⟨v, h1, h2⟩ := hh
  have h3 := h1 w hw
  unfold Oper.quietAtIn at h3
  unfold Oper.wpIn
  refine ⟨ha w hw, ?_⟩
  rw [Oper.semAt_eq _ _ _ hnd]
  generalize (execOp a.eval o).run P w = r at *
  cases r with
  | ok x w' =>
    cases x <;> simp only [Oper.quietUponIn] at h3 <;> simp only [Oper.uponIn]
    case value u =>
      obtain ⟨e1, e2⟩ := h3
      rw [e1, e2]
      exact h _ _ hw h2
    case skip =>
      obtain ⟨e1, e2⟩ := h3
      rw [e1, ← e2]
      exact h _ _ hw h2
    case enter f args =>
      obtain ⟨e1, hd, hc⟩ := h3
      rw [e1]
      exact ⟨hd, hc.mono fun e w'' ⟨he, hw''⟩ => by subst he; exact h _ _ hw'' h2⟩
  | halt x w' => simp only [Oper.quietUponIn] at h3

theorem wpOpIn_of_qOpInR {i : Nat} {a : Act} {K : Act → Prop} {K' : Act → World → Prop} {Q' : Exit → Act → World → Prop} {w : World} (hnd : ∀ (j : Nat) (o : Oper), ops[j]? = some o → ∀ c, o.op ≠ .defer c) (hC : C w) (h : ∀ a w', C w' → K a → K' a w')
    (hh : qOpIn F n P ops C i K a) : wpOpIn F n P ops Q' i K' a w := by
  unfold qOpIn at hh
  unfold wpOpIn
  split
  · rename_i ho; simp only [ho] at hh; exact h _ _ hC hh
  · rename_i o ho
    simp only [ho] at hh
    obtain ⟨ha, hh⟩ := hh
    split
    · rename_i hw; simp only [hw, if_true] at hh; exact opIn_of_quietR (hnd _ _ ho) hC h ha hh
    · rename_i hw; simp only [hw] at hh; exact ⟨ha w hC, h _ _ hC hh⟩

theorem wpAnyIn_of_quietR {Q : Act → Prop} {Q' : Exit → Act → World → Prop} (hnd : ∀ (j : Nat) (o : Oper), ops[j]? = some o → ∀ c, o.op ≠ .defer c) (hQ : ∀ a w, C w → Q a → Q' .normal a w) : ∀ (fuel : Nat) (listed : Array Bool) (a : Act) (w : World), C w →
    wpAnyQIn F n P md ops C Q fuel listed a → wpAnyIn F n P md ops Q' fuel listed a w
  | 0, _, _, _, hw, h => ⟨h.1, hQ _ _ hw h.2⟩
  | fuel + 1, _, _, _, hw, h => ⟨fun h0 => hQ _ _ hw (h.1 h0), fun i hi => wpOpIn_of_qOpInR hnd hw (fun a' w' hw' => wpAnyIn_of_quietR hnd hQ fuel _ a' w' hw') (h.2 i hi)⟩

def plainOp (o : Oper) : Bool := match o.op with
  | .defer _ => false
  | _ => true
theorem plainOp_spec {l : List Oper} (h : l.all plainOp = true) : ∀ (j : Nat) (o : Oper), l.toArray[j]? = some o → ∀ c, o.op ≠ .defer c := by
  intro j o ho c hc
  have h1 : o ∈ l := by
    have := List.mem_of_getElem? (by simpa using ho : l[j]? = some o)
    exact this
  have h2 := List.all_eq_true.1 h o h1
  unfold plainOp at h2
  rw [hc] at h2
  cases h2

theorem wpIn_region_quiet_litR {id : Nat} {Q : Exit → Act → World → Prop} {a : Act} {w : World} {l : List Oper} (hnd : l.all plainOp = true) (hm : P.follows .mixedOrders = true) (hB : Region.lexB .any l.toArray = true)
    (h : wpQuietIn F n P l.toArray (fun w' => ∃ n, w' = w.drewN n) (fun a' => ∀ w', (∃ n, w' = w.drewN n) → Q .normal a' w') l a) : (Code.region id l.toArray true).wpIn F n P Q a w := by
  simp only [Region.lexB, Bool.and_eq_true] at hB
  refine wpIn_region_any hm (wpAnyIn_of_quietR (C := fun w' => ∃ n, w' = w.drewN n) (Q := fun a' => ∀ w', (∃ n, w' = w.drewN n) → Q .normal a' w') (plainOp_spec hnd) (fun _ w' hw' h => h w' hw') _ _ _ _ ⟨1, rfl⟩ ?_)
  have := wpAnyQIn_lex (F := F) (n := n) (C := fun w' => ∃ n, w' = w.drewN n) (md := .any) hB.1 l 0 (Array.replicate l.length false) a (by simp) (by simpa using hB.2) h
  simpa using this
end

end Go.Proofs.YtahpdkkpnkhnhaaGreatDoor

/- Walks: Route: the body of the range over the machines that the chosen one can feed. -/
namespace Go.Proofs.YtahpdkkpnkhnhaaGreatDoor
open Go Go.Proofs Go.RowKit Go.Shelf
attribute [local go_sem] Oper.semAt_some

def relaxB (p : Pl) (bl : List Int) (to m : Int) (s : RtS) (x : Int) : Bool :=
  (x == to || cvB (kdA p x)) && !bl.contains x && (s.best.getD x.toNat 0 == 0 || decide (s.best.getD m.toNat 0 + tAt p x < s.best.getD x.toNat 0))
def relax (p : Pl) (bl : List Int) (to m : Int) (s : RtS) (x : Int) : RtS :=
  if relaxB p bl to m s x then ⟨s.best.set x.toNat (s.best.getD m.toNat 0 + tAt p x), s.before.set x.toNat m, s.done⟩ else s
theorem relax_bd {p : Pl} {bl : List Int} {to m x : Int} {s : RtS} {M : Int} (h : RtB M s) (ht : 0 ≤ tAt p x ∧ tAt p x ≤ 100000) (hm : 0 ≤ m ∧ m < 64) : RtB (M + 100000) (relax p bl to m s x) := by
  have hg : 0 ≤ s.best.getD m.toNat 0 ∧ s.best.getD m.toNat 0 ≤ M := by
    have hl : m.toNat < s.best.length := by rw [h.l1]; omega
    rw [getD_at s.best _ hl]
    exact h.b1 _ (List.getElem_mem hl)
  unfold relax
  split
  · refine ⟨by rw [List.length_set, h.l1], by rw [List.length_set, h.l2], h.l3, fun y hy => ?_, fun y hy => ?_⟩
    · rcases List.mem_or_eq_of_mem_set hy with h1 | h1
      · have := h.b1 y h1; omega
      · omega
    · rcases List.mem_or_eq_of_mem_set hy with h1 | h1
      · exact h.b2 y h1
      · omega
  · exact ⟨h.l1, h.l2, h.l3, fun y hy => by have := h.b1 y hy; omega, h.b2⟩
theorem RtM.grown {w W W' : World} {bb : Nat} {v1 v2 vb : Value} {to : Int} {s : RtS} {row : Option Nat} (h : RtM w W bb v1 v2 vb to s) (hg : W.grownBy W' row) (hn : NoCells W row) (hB : ∀ k, row = some k → w.heap.size ≤ k) : RtM w W' bb v1 v2 vb to s :=
  ⟨h.px.grown hg (hn.box h.px), h.tx.grown hg (hn.box h.tx), h.kx.grown hg (hn.box h.kx), h.be.grown hg (hn.box h.be), h.bf.grown hg (hn.box h.bf), h.dn.grown hg (hn.box h.dn), h.bw.grown hg h.bw.size hB, h.bg⟩
theorem NxR.grown {W W' : World} {q B : Nat} {v1 v2 : Value} {p : Pl} {m : Int} {row : Option Nat} (h : NxR W q B v1 v2 p m) (hg : W.grownBy W' row) (hn : NoCells W row) (hB : ∀ k, row = some k → B ≤ k) : NxR W' q B v1 v2 p m :=
  ⟨h.b1.grown hg (hn.box h.b1), h.b2.grown hg (hn.box h.b2), h.arcs.below (((Below.refl W.heap.size W).mono h.lt).grown hg h.lt hB), Nat.le_trans h.lt hg.size⟩
theorem NxR.set {W : World} {q B : Nat} {v1 v2 : Value} {p : Pl} {m : Int} (h : NxR W q B v1 v2 p m) {a : Addr} (u : Value) (h1 : a.block ≠ q) (h2 : a.block ≠ q + 1) (h3 : B ≤ a.block) : NxR (W.setCell a u) q B v1 v2 p m :=
  ⟨h.b1.other u h1, h.b2.other u h2, h.arcs.below (((Below.refl W.heap.size W).mono h.lt).setCell h3 u), by rw [World.size_setCell]; exact h.lt⟩

/-- Between two machines that come. -/
structure InR18 (w : World) (bb mb q : Nat) (v1 v2 vb : Value) (p : Pl) (bl : List Int) (to m : Int) (s1 : RtS) (M : Int) (pre : List (Nxt p m)) (W : World) : Prop where
  rt : RtM w W bb v1 v2 vb to ((pre.map Subtype.val).foldl (relax p bl to m) s1)
  bd : RtB (M + 100000 * pre.length) ((pre.map Subtype.val).foldl (relax p bl to m) s1)
  mx : Box W mb 3 [.int .i64 m]
  nx : NxR W q w.heap.size v1 v2 p m
theorem InR18.own {w : World} {bb mb q : Nat} {v1 v2 vb : Value} {p : Pl} {bl : List Int} {to m : Int} {s1 : RtS} {M : Int} {B : Nat} (hB : w.heap.size ≤ B) : OwnFrom B (InR18 w bb mb q v1 v2 vb p bl to m s1 M) := by
  intro s W W' row h hg hr
  have hn : NoCells W row := fun r e => (hr r e).2
  have hk : ∀ k, row = some k → w.heap.size ≤ k := fun k e => Nat.le_trans hB (hr k e).1
  exact ⟨h.rt.grown hg hn hk, h.bd, h.mx.grown hg (hn.box h.mx), h.nx.grown hg hn hk⟩
def fr18a (N bb : Nat) (fr : Int) (mb : Nat) (x : Int) (z : Nat → Value) : List Value := [z 0, .int .i64 fr, z 2, z 3, .pointer (some ⟨N, 0, none⟩), z 5, .pointer (some ⟨N + 1, 0, none⟩), .pointer (some ⟨N + 1 + 1, 0, none⟩), z 8, z 9, z 10, z 11, .pointer (some ⟨bb, 0, none⟩), .pointer (some ⟨bb + 1, 0, none⟩), .pointer (some ⟨bb + 1 + 1, 0, none⟩), .pointer (some ⟨mb, 0, none⟩), z 16, .int .i64 x, z 18, z 19, z 20, z 21, z 22, z 23, z 24, z 25, z 26, z 27, z 28, z 29, z 30, z 31, z 32, z 33, z 34, z 35, z 36, z 37, z 38, z 39, z 40, z 41, z 42, z 43, z 44, z 45, z 46, z 47, z 48, z 49, z 50, z 51, z 52, z 53, z 54, z 55, z 56, z 57, z 58, z 59, z 60, z 61, z 62, z 63, z 64, z 65, z 66, z 67, z 68, z 69, z 70, z 71, z 72, z 73, z 74, z 75, z 76, z 77, z 78, z 79, z 80, z 81, z 82, z 83, z 84, z 85, z 86, z 87, z 88, z 89, z 90, z 91, z 92, z 93, z 94, z 95, z 96, z 97, z 98, z 99, z 100, z 101, z 102, z 103, z 104, z 105, z 106, z 107, z 108, z 109, z 110, z 111, z 112, z 113, z 114, z 115, z 116, z 117, z 118, z 119, z 120, z 121, z 122, z 123, z 124, z 125, z 126, z 127, z 128, z 129, z 130, z 131, z 132, z 133, z 134, z 135, z 136, z 137, z 138, z 139, z 140, z 141, z 142, z 143, z 144, z 145, z 146, z 147, z 148, z 149, z 150, z 151, z 152, z 153, z 154, z 155, z 156, z 157, z 158, z 159, z 160, z 161, z 162, z 163, z 164, z 165, z 166, z 167, z 168, z 169, z 170, z 171, z 172]
theorem fr18a_of (N bb : Nat) (fr : Int) (mb : Nat) (x : Int) (L : List Value) (hL : L.length = 173) (h1 : L[1]? = some (.int .i64 fr)) (h4 : L[4]? = some (.pointer (some ⟨N, 0, none⟩))) (h6 : L[6]? = some (.pointer (some ⟨N + 1, 0, none⟩))) (h7 : L[7]? = some (.pointer (some ⟨N + 1 + 1, 0, none⟩))) (h12 : L[12]? = some (.pointer (some ⟨bb, 0, none⟩))) (h13 : L[13]? = some (.pointer (some ⟨bb + 1, 0, none⟩))) (h14 : L[14]? = some (.pointer (some ⟨bb + 1 + 1, 0, none⟩))) (h15 : L[15]? = some (.pointer (some ⟨mb, 0, none⟩))) (h17 : L[17]? = some (.int .i64 x)) : ∃ z, L = fr18a N bb fr mb x z := by
  refine ⟨fun i => L.getD i undef, ?_⟩
  unfold fr18a
  have e := list_range L 173 hL
  have e1 : L.getD 1 undef = .int .i64 fr := by rw [List.getD_eq_getElem?_getD, h1]; rfl
  have e4 : L.getD 4 undef = .pointer (some ⟨N, 0, none⟩) := by rw [List.getD_eq_getElem?_getD, h4]; rfl
  have e6 : L.getD 6 undef = .pointer (some ⟨N + 1, 0, none⟩) := by rw [List.getD_eq_getElem?_getD, h6]; rfl
  have e7 : L.getD 7 undef = .pointer (some ⟨N + 1 + 1, 0, none⟩) := by rw [List.getD_eq_getElem?_getD, h7]; rfl
  have e12 : L.getD 12 undef = .pointer (some ⟨bb, 0, none⟩) := by rw [List.getD_eq_getElem?_getD, h12]; rfl
  have e13 : L.getD 13 undef = .pointer (some ⟨bb + 1, 0, none⟩) := by rw [List.getD_eq_getElem?_getD, h13]; rfl
  have e14 : L.getD 14 undef = .pointer (some ⟨bb + 1 + 1, 0, none⟩) := by rw [List.getD_eq_getElem?_getD, h14]; rfl
  have e15 : L.getD 15 undef = .pointer (some ⟨mb, 0, none⟩) := by rw [List.getD_eq_getElem?_getD, h15]; rfl
  have e17 : L.getD 17 undef = .int .i64 x := by rw [List.getD_eq_getElem?_getD, h17]; rfl
  rw [← e1, ← e4, ← e6, ← e7, ← e12, ← e13, ← e14, ← e15, ← e17]
  exact e
theorem fr18a_act (N bb : Nat) (fr : Int) (mb : Nat) (x : Int) (A : Act) (ds : List Deferred) (hds : A.defers = ds) (hL : A.tmps.size = 173) (h1 : A.tmps[1]? = some (.int .i64 fr)) (h4 : A.tmps[4]? = some (.pointer (some ⟨N, 0, none⟩))) (h6 : A.tmps[6]? = some (.pointer (some ⟨N + 1, 0, none⟩))) (h7 : A.tmps[7]? = some (.pointer (some ⟨N + 1 + 1, 0, none⟩))) (h12 : A.tmps[12]? = some (.pointer (some ⟨bb, 0, none⟩))) (h13 : A.tmps[13]? = some (.pointer (some ⟨bb + 1, 0, none⟩))) (h14 : A.tmps[14]? = some (.pointer (some ⟨bb + 1 + 1, 0, none⟩))) (h15 : A.tmps[15]? = some (.pointer (some ⟨mb, 0, none⟩))) (h17 : A.tmps[17]? = some (.int .i64 x)) : ∃ z, A = { tmps := (fr18a N bb fr mb x z).toArray, defers := ds } := by
  obtain ⟨z, e⟩ := fr18a_of N bb fr mb x A.tmps.toList (by rw [Array.length_toList]; exact hL) (by rw [Array.getElem?_toList]; exact h1) (by rw [Array.getElem?_toList]; exact h4) (by rw [Array.getElem?_toList]; exact h6) (by rw [Array.getElem?_toList]; exact h7) (by rw [Array.getElem?_toList]; exact h12) (by rw [Array.getElem?_toList]; exact h13) (by rw [Array.getElem?_toList]; exact h14) (by rw [Array.getElem?_toList]; exact h15) (by rw [Array.getElem?_toList]; exact h17)
  exact ⟨z, by cases A; subst hds; dsimp only at e ⊢; rw [← e]⟩

noncomputable def rng18 : Code := codeL (codeR (codeR (codeR (codeR (codeR (codeR in18))))))
noncomputable def asg18 : Code := codeL rng18
noncomputable def bdy18 : Code := codeR rng18
theorem rng18_eq : rng18 = .rangeFunc (.tmp 109) #[110] asg18 bdy18 := rfl
noncomputable def r25 : Code := codeL (codeL bdy18)
noncomputable def r26 : Code := codeL (codeR (codeL bdy18))
noncomputable def if27 : Code := codeR (codeR (codeL bdy18))
theorem bdy18_eq : bdy18 = .block 5 (.seq r25 (.seq r26 if27)) := rfl
def fr18b (N bb : Nat) (fr : Int) (mb : Nat) (x t : Int) (z : Nat → Value) : List Value := [z 0, .int .i64 fr, z 2, z 3, .pointer (some ⟨N, 0, none⟩), z 5, .pointer (some ⟨N + 1, 0, none⟩), .pointer (some ⟨N + 1 + 1, 0, none⟩), z 8, z 9, z 10, z 11, .pointer (some ⟨bb, 0, none⟩), .pointer (some ⟨bb + 1, 0, none⟩), .pointer (some ⟨bb + 1 + 1, 0, none⟩), .pointer (some ⟨mb, 0, none⟩), z 16, .int .i64 x, .int .i64 t, z 19, z 20, z 21, z 22, z 23, z 24, z 25, z 26, z 27, z 28, z 29, z 30, z 31, z 32, z 33, z 34, z 35, z 36, z 37, z 38, z 39, z 40, z 41, z 42, z 43, z 44, z 45, z 46, z 47, z 48, z 49, z 50, z 51, z 52, z 53, z 54, z 55, z 56, z 57, z 58, z 59, z 60, z 61, z 62, z 63, z 64, z 65, z 66, z 67, z 68, z 69, z 70, z 71, z 72, z 73, z 74, z 75, z 76, z 77, z 78, z 79, z 80, z 81, z 82, z 83, z 84, z 85, z 86, z 87, z 88, z 89, z 90, z 91, z 92, z 93, z 94, z 95, z 96, z 97, z 98, z 99, z 100, z 101, z 102, z 103, z 104, z 105, z 106, z 107, z 108, z 109, z 110, z 111, z 112, z 113, z 114, z 115, z 116, z 117, z 118, z 119, z 120, z 121, z 122, z 123, z 124, z 125, z 126, z 127, z 128, z 129, z 130, z 131, z 132, z 133, z 134, z 135, z 136, z 137, z 138, z 139, z 140, z 141, z 142, z 143, z 144, z 145, z 146, z 147, z 148, z 149, z 150, z 151, z 152, z 153, z 154, z 155, z 156, z 157, z 158, z 159, z 160, z 161, z 162, z 163, z 164, z 165, z 166, z 167, z 168, z 169, z 170, z 171, z 172]
theorem fr18b_of (N bb : Nat) (fr : Int) (mb : Nat) (x t : Int) (L : List Value) (hL : L.length = 173) (h1 : L[1]? = some (.int .i64 fr)) (h4 : L[4]? = some (.pointer (some ⟨N, 0, none⟩))) (h6 : L[6]? = some (.pointer (some ⟨N + 1, 0, none⟩))) (h7 : L[7]? = some (.pointer (some ⟨N + 1 + 1, 0, none⟩))) (h12 : L[12]? = some (.pointer (some ⟨bb, 0, none⟩))) (h13 : L[13]? = some (.pointer (some ⟨bb + 1, 0, none⟩))) (h14 : L[14]? = some (.pointer (some ⟨bb + 1 + 1, 0, none⟩))) (h15 : L[15]? = some (.pointer (some ⟨mb, 0, none⟩))) (h17 : L[17]? = some (.int .i64 x)) (h18 : L[18]? = some (.int .i64 t)) : ∃ z, L = fr18b N bb fr mb x t z := by
  refine ⟨fun i => L.getD i undef, ?_⟩
  unfold fr18b
  have e := list_range L 173 hL
  have e1 : L.getD 1 undef = .int .i64 fr := by rw [List.getD_eq_getElem?_getD, h1]; rfl
  have e4 : L.getD 4 undef = .pointer (some ⟨N, 0, none⟩) := by rw [List.getD_eq_getElem?_getD, h4]; rfl
  have e6 : L.getD 6 undef = .pointer (some ⟨N + 1, 0, none⟩) := by rw [List.getD_eq_getElem?_getD, h6]; rfl
  have e7 : L.getD 7 undef = .pointer (some ⟨N + 1 + 1, 0, none⟩) := by rw [List.getD_eq_getElem?_getD, h7]; rfl
  have e12 : L.getD 12 undef = .pointer (some ⟨bb, 0, none⟩) := by rw [List.getD_eq_getElem?_getD, h12]; rfl
  have e13 : L.getD 13 undef = .pointer (some ⟨bb + 1, 0, none⟩) := by rw [List.getD_eq_getElem?_getD, h13]; rfl
  have e14 : L.getD 14 undef = .pointer (some ⟨bb + 1 + 1, 0, none⟩) := by rw [List.getD_eq_getElem?_getD, h14]; rfl
  have e15 : L.getD 15 undef = .pointer (some ⟨mb, 0, none⟩) := by rw [List.getD_eq_getElem?_getD, h15]; rfl
  have e17 : L.getD 17 undef = .int .i64 x := by rw [List.getD_eq_getElem?_getD, h17]; rfl
  have e18 : L.getD 18 undef = .int .i64 t := by rw [List.getD_eq_getElem?_getD, h18]; rfl
  rw [← e1, ← e4, ← e6, ← e7, ← e12, ← e13, ← e14, ← e15, ← e17, ← e18]
  exact e
theorem fr18b_act (N bb : Nat) (fr : Int) (mb : Nat) (x t : Int) (A : Act) (ds : List Deferred) (hds : A.defers = ds) (hL : A.tmps.size = 173) (h1 : A.tmps[1]? = some (.int .i64 fr)) (h4 : A.tmps[4]? = some (.pointer (some ⟨N, 0, none⟩))) (h6 : A.tmps[6]? = some (.pointer (some ⟨N + 1, 0, none⟩))) (h7 : A.tmps[7]? = some (.pointer (some ⟨N + 1 + 1, 0, none⟩))) (h12 : A.tmps[12]? = some (.pointer (some ⟨bb, 0, none⟩))) (h13 : A.tmps[13]? = some (.pointer (some ⟨bb + 1, 0, none⟩))) (h14 : A.tmps[14]? = some (.pointer (some ⟨bb + 1 + 1, 0, none⟩))) (h15 : A.tmps[15]? = some (.pointer (some ⟨mb, 0, none⟩))) (h17 : A.tmps[17]? = some (.int .i64 x)) (h18 : A.tmps[18]? = some (.int .i64 t)) : ∃ z, A = { tmps := (fr18b N bb fr mb x t z).toArray, defers := ds } := by
  obtain ⟨z, e⟩ := fr18b_of N bb fr mb x t A.tmps.toList (by rw [Array.length_toList]; exact hL) (by rw [Array.getElem?_toList]; exact h1) (by rw [Array.getElem?_toList]; exact h4) (by rw [Array.getElem?_toList]; exact h6) (by rw [Array.getElem?_toList]; exact h7) (by rw [Array.getElem?_toList]; exact h12) (by rw [Array.getElem?_toList]; exact h13) (by rw [Array.getElem?_toList]; exact h14) (by rw [Array.getElem?_toList]; exact h15) (by rw [Array.getElem?_toList]; exact h17) (by rw [Array.getElem?_toList]; exact h18)
  exact ⟨z, by cases A; subst hds; dsimp only at e ⊢; rw [← e]⟩


set_option maxRecDepth 100000 in
set_option maxHeartbeats 1000000 in
theorem r25_walk (lp n' : Nat) (w W : World) (bb mb : Nat) (n c1 b1 off1 : Nat) (v2 vb : Value) (p : Pl) (to fr : Int) (s : RtS) (M : Int) (m x : Nat) (hm : RtM w W bb (.slice (some ⟨b1, off1, none⟩) n c1) v2 vb to s) (hb : RtB M s) (hM : M ≤ 1000000000000) (hx : Box W mb 3 [.int .i64 m]) (hm64 : m < 64) (hxn : x < n) (hnc : n ≤ c1 ∧ True)
    (sx : ByteArray) (tx : Int) (hat : At w b1 (off1 + x * 2) [.string sx, .int .i64 tx]) (hbb : b1 < w.heap.size) (htx : 0 ≤ tx ∧ tx ≤ 100000) (ds : List Deferred) (z : Nat → Value) (Q : Exit → Act → World → Prop)
    (hQ : ∀ z' k, Q .normal { tmps := (fr18b w.heap.size bb fr mb x (s.best.getD m 0 + tx) z').toArray, defers := ds } (W.drewN k)) :
    r25.wpIn (Fence.wide.inRound lp) n' Tryz.prog Q { tmps := (fr18a w.heap.size bb fr mb x z).toArray, defers := ds } W := by
  have hml : m < s.best.length := by rw [hb.l1]; exact hm64
  have hbm := hb.b1 _ (List.getElem_mem hml)
  rw [← getD_at s.best m hml] at hbm
  obtain ⟨hbm0, hbm1⟩ := hbm
  have c0 : W.cell? ⟨bb, m, none⟩ = some (.int .i64 (s.best.getD m 0)) := (hm.be.cell m).trans (ints_get hml)
  have bz := hm.be.lt
  have x0 := hm.px.cell 0
  have xz := hm.px.lt
  have m0 := hx.cell 0
  have mz := hx.lt
  obtain ⟨t0, t1⟩ := (hat.below hm.bw hbb).c2
  have hb1z : b1 < W.heap.size := Nat.lt_of_lt_of_le hbb hm.bw.size
  obtain ⟨ht0, ht1⟩ := htx
  obtain ⟨hn1, hn2⟩ := hnc
  simp only [List.getElem?_cons_zero] at x0 m0
  have hm64' : (m : Int) < 64 := by omega
  have HQ : Hid (∀ A k, (∃ z', A = { tmps := (fr18b w.heap.size bb fr mb x (s.best.getD m 0 + tx) z').toArray, defers := ds }) → Q .normal A (W.drewN k)) := Lib.hid (by rintro A k ⟨z', rfl⟩; exact hQ z' k)
  clear hQ hm hb hx hat hml
  generalize s.best.getD m 0 = bm at *
  have hmx : Tryz.prog.follows .mixedOrders = true := by kernel_rfl
  simp only [r25, bdy18, rng18, in18, rnd18, blk18, Tryz.f18, Option.getD, codeL, codeR, fr18a]
  refine wpIn_region_quiet_litR (by kernel_rfl) (by kernel_rfl) (by kernel_rfl) ?_
  repeat (gi_big_quiet_step (fail))
  refine wpQuietIn_nil ?_
  intro _ hw'
  obtain ⟨nq, hw''⟩ := hw'
  subst hw''
  refine HQ.out _ _ ?_
  apply fr18b_act <;> rfl
end Go.Proofs.YtahpdkkpnkhnhaaGreatDoor
