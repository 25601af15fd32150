/- Lemmas on the way to the laws (part 18): Ce Cf Cg Ch -/
import Derived.Test.YtahpdkkpnkhnhaaGreatDoorLib17
set_option linter.unusedVariables false
set_option linter.unusedSimpArgs false

/- Walks: Route: the test and the two stores of a machine that comes. -/
namespace Go.Proofs.YtahpdkkpnkhnhaaGreatDoor
open Go Go.Proofs Go.RowKit Go.Shelf
attribute [local go_sem] Oper.semAt_some

def fr18c (N bb : Nat) (fr : Int) (mb : Nat) (x t : Int) (c : Bool) (z : Nat → Value) : List Value := [z 0, .int .i64 fr, z 2, z 3, .pointer (some ⟨N, 0, none⟩), z 5, .pointer (some ⟨N + 1, 0, none⟩), .pointer (some ⟨N + 1 + 1, 0, none⟩), z 8, z 9, z 10, z 11, .pointer (some ⟨bb, 0, none⟩), .pointer (some ⟨bb + 1, 0, none⟩), .pointer (some ⟨bb + 1 + 1, 0, none⟩), .pointer (some ⟨mb, 0, none⟩), z 16, .int .i64 x, .int .i64 t, z 19, z 20, z 21, z 22, z 23, z 24, z 25, z 26, z 27, z 28, z 29, z 30, z 31, z 32, z 33, z 34, z 35, z 36, z 37, z 38, z 39, z 40, z 41, z 42, z 43, z 44, z 45, z 46, z 47, z 48, z 49, z 50, z 51, z 52, z 53, z 54, z 55, z 56, z 57, z 58, z 59, z 60, z 61, z 62, z 63, z 64, z 65, z 66, z 67, z 68, z 69, z 70, z 71, z 72, z 73, z 74, z 75, z 76, z 77, z 78, z 79, z 80, z 81, z 82, z 83, z 84, z 85, z 86, z 87, z 88, z 89, z 90, z 91, z 92, z 93, z 94, z 95, z 96, z 97, z 98, z 99, z 100, z 101, z 102, z 103, z 104, z 105, z 106, z 107, z 108, z 109, z 110, z 111, z 112, z 113, z 114, z 115, z 116, z 117, z 118, z 119, z 120, z 121, z 122, z 123, z 124, z 125, z 126, z 127, z 128, z 129, z 130, z 131, z 132, z 133, z 134, z 135, z 136, z 137, z 138, z 139, z 140, z 141, z 142, z 143, z 144, z 145, z 146, z 147, z 148, z 149, .bool c, z 151, z 152, z 153, z 154, z 155, z 156, z 157, z 158, z 159, z 160, z 161, z 162, z 163, z 164, z 165, z 166, z 167, z 168, z 169, z 170, z 171, z 172]
theorem fr18c_of (N bb : Nat) (fr : Int) (mb : Nat) (x t : Int) (c : Bool) (L : List Value) (hL : L.length = 173) (h1 : L[1]? = some (.int .i64 fr)) (h4 : L[4]? = some (.pointer (some ⟨N, 0, none⟩))) (h6 : L[6]? = some (.pointer (some ⟨N + 1, 0, none⟩))) (h7 : L[7]? = some (.pointer (some ⟨N + 1 + 1, 0, none⟩))) (h12 : L[12]? = some (.pointer (some ⟨bb, 0, none⟩))) (h13 : L[13]? = some (.pointer (some ⟨bb + 1, 0, none⟩))) (h14 : L[14]? = some (.pointer (some ⟨bb + 1 + 1, 0, none⟩))) (h15 : L[15]? = some (.pointer (some ⟨mb, 0, none⟩))) (h17 : L[17]? = some (.int .i64 x)) (h18 : L[18]? = some (.int .i64 t)) (h150 : L[150]? = some (.bool c)) : ∃ z, L = fr18c N bb fr mb x t c z := by
  refine ⟨fun i => L.getD i undef, ?_⟩
  unfold fr18c
  have e := list_range L 173 hL
  have e1 : L.getD 1 undef = .int .i64 fr := by rw [List.getD_eq_getElem?_getD, h1]; rfl
  have e4 : L.getD 4 undef = .pointer (some ⟨N, 0, none⟩) := by rw [List.getD_eq_getElem?_getD, h4]; rfl
  have e6 : L.getD 6 undef = .pointer (some ⟨N + 1, 0, none⟩) := by rw [List.getD_eq_getElem?_getD, h6]; rfl
  have e7 : L.getD 7 undef = .pointer (some ⟨N + 1 + 1, 0, none⟩) := by rw [List.getD_eq_getElem?_getD, h7]; rfl
  have e12 : L.getD 12 undef = .pointer (some ⟨bb, 0, none⟩) := by rw [List.getD_eq_getElem?_getD, h12]; rfl
  have e13 : L.getD 13 undef = .pointer (some ⟨bb + 1, 0, none⟩) := by rw [List.getD_eq_getElem?_getD, h13]; rfl
  have e14 : L.getD 14 undef = .pointer (some ⟨bb + 1 + 1, 0, none⟩) := by rw [List.getD_eq_getElem?_getD, h14]; rfl
  have e15 : L.getD 15 undef = .pointer (some ⟨mb, 0, none⟩) := by rw [List.getD_eq_getElem?_getD, h15]; rfl
  have e17 : L.getD 17 undef = .int .i64 x := by rw [List.getD_eq_getElem?_getD, h17]; rfl
  have e18 : L.getD 18 undef = .int .i64 t := by rw [List.getD_eq_getElem?_getD, h18]; rfl
  have e150 : L.getD 150 undef = .bool c := by rw [List.getD_eq_getElem?_getD, h150]; rfl
  rw [← e1, ← e4, ← e6, ← e7, ← e12, ← e13, ← e14, ← e15, ← e17, ← e18, ← e150]
  exact e
theorem fr18c_act (N bb : Nat) (fr : Int) (mb : Nat) (x t : Int) (c : Bool) (A : Act) (ds : List Deferred) (hds : A.defers = ds) (hL : A.tmps.size = 173) (h1 : A.tmps[1]? = some (.int .i64 fr)) (h4 : A.tmps[4]? = some (.pointer (some ⟨N, 0, none⟩))) (h6 : A.tmps[6]? = some (.pointer (some ⟨N + 1, 0, none⟩))) (h7 : A.tmps[7]? = some (.pointer (some ⟨N + 1 + 1, 0, none⟩))) (h12 : A.tmps[12]? = some (.pointer (some ⟨bb, 0, none⟩))) (h13 : A.tmps[13]? = some (.pointer (some ⟨bb + 1, 0, none⟩))) (h14 : A.tmps[14]? = some (.pointer (some ⟨bb + 1 + 1, 0, none⟩))) (h15 : A.tmps[15]? = some (.pointer (some ⟨mb, 0, none⟩))) (h17 : A.tmps[17]? = some (.int .i64 x)) (h18 : A.tmps[18]? = some (.int .i64 t)) (h150 : A.tmps[150]? = some (.bool c)) : ∃ z, A = { tmps := (fr18c N bb fr mb x t c z).toArray, defers := ds } := by
  obtain ⟨z, e⟩ := fr18c_of N bb fr mb x t c A.tmps.toList (by rw [Array.length_toList]; exact hL) (by rw [Array.getElem?_toList]; exact h1) (by rw [Array.getElem?_toList]; exact h4) (by rw [Array.getElem?_toList]; exact h6) (by rw [Array.getElem?_toList]; exact h7) (by rw [Array.getElem?_toList]; exact h12) (by rw [Array.getElem?_toList]; exact h13) (by rw [Array.getElem?_toList]; exact h14) (by rw [Array.getElem?_toList]; exact h15) (by rw [Array.getElem?_toList]; exact h17) (by rw [Array.getElem?_toList]; exact h18) (by rw [Array.getElem?_toList]; exact h150)
  exact ⟨z, by cases A; subst hds; dsimp only at e ⊢; rw [← e]⟩


set_option maxRecDepth 100000 in
set_option maxHeartbeats 1000000 in
theorem r26_walk (lp n' : Nat) (w W : World) (bb mb : Nat) (n c1 b1 off1 : Nat) (v2 vb : Value) (to fr t : Int) (s : RtS) (x : Nat) (hm : RtM w W bb (.slice (some ⟨b1, off1, none⟩) n c1) v2 vb to s) (hl : x < s.best.length) (hxn : x < n) (hn64 : n ≤ 64) (hnc : n ≤ c1 ∧ True)
    (sx : ByteArray) (tx : Int) (hat : At w b1 (off1 + x * 2) [.string sx, .int .i64 tx]) (hbb : b1 < w.heap.size) (hwd : WdR w) (bl : List Int) (hbl : Sl encI 1 w w.heap.size vb bl) (ds : List Deferred) (z : Nat → Value) (Q : Exit → Act → World → Prop)
    (hQ : ∀ z' W', Below W.heap.size W W' → Q .normal { tmps := (fr18c w.heap.size bb fr mb x t (((x : Int) == to || cvB sx) && !bl.contains (x : Int) && (s.best.getD x 0 == 0 || decide (t < s.best.getD x 0))) z').toArray, defers := ds } W') :
    r26.wpIn (Fence.wide.inRound lp) n' Tryz.prog Q { tmps := (fr18b w.heap.size bb fr mb x t z).toArray, defers := ds } W := by
  have HC := Lib.hid (fun (W' : World) (hb : Below W.heap.size W W') => conveys84 sx tx W' (hwd.later (hm.bw.trans (hb.mono hm.bw.size))))
  have HK := Lib.hid (fun (W' : World) (hb : Below W.heap.size W W') => contains82 vb bl x W' (hbl.later (hm.bw.trans (hb.mono hm.bw.size))))
  have HL := Lib.hid (fun (W' : World) (hb : Below W.heap.size W W') => hm.later hb)
  have HBX := Lib.hid (fun (W' : World) (hb : Below W.heap.size W W') => ((hm.be.later hb).cell x).trans (ints_get hl))
  have HQ : Hid (∀ A W' R, (∃ z', A = { tmps := (fr18c w.heap.size bb fr mb x t R z').toArray, defers := ds }) → Below W.heap.size W W' → R = (((x : Int) == to || cvB sx) && !bl.contains (x : Int) && (s.best.getD x 0 == 0 || decide (t < s.best.getD x 0))) → Q .normal A W') := Lib.hid (by rintro A W' R ⟨z', rfl⟩ hb rfl; exact hQ z' W' hb)
  have t0 := hm.tx.cell 0
  have x0 := hm.px.cell 0
  have xz := hm.px.lt
  have HA := Lib.hid (fun (W' : World) (hb : Below W.heap.size W W') => (hat.below (hm.bw.trans (hb.mono hm.bw.size)) hbb).c2)
  obtain ⟨k0, k1⟩ := HA.out W (Below.refl _ _)
  have b1z : b1 < W.heap.size := Nat.lt_of_lt_of_le hbb hm.bw.size
  have bz := hm.be.lt
  obtain ⟨hn1, hn2⟩ := hnc
  have hx64 : (x : Int) < 64 := by omega
  simp only [List.getElem?_cons_zero] at t0 x0
  obtain ⟨A1, hA1⟩ : ∃ b, ((x : Int) == to) = b := ⟨_, rfl⟩
  obtain ⟨A2, hA2⟩ : ∃ b, cvB sx = b := ⟨_, rfl⟩
  obtain ⟨A3, hA3⟩ : ∃ b, bl.contains (x : Int) = b := ⟨_, rfl⟩
  obtain ⟨bx, hbx⟩ : ∃ b, s.best.getD x 0 = b := ⟨_, rfl⟩
  obtain ⟨A4, hA4⟩ : ∃ b, (bx == 0) = b := ⟨_, rfl⟩
  obtain ⟨A5, hA5⟩ : ∃ b, decide (t < bx) = b := ⟨_, rfl⟩
  rw [hA2] at HC
  rw [hA3] at HK
  rw [hbx] at HBX
  simp only [hA1, hA2, hA3, hbx, hA4, hA5] at HQ
  clear hQ hm hat hwd hbl hA2 hA3 hbx hl hbb
  simp only [r26, bdy18, rng18, in18, rnd18, blk18, Tryz.f18, Option.getD, codeL, codeR, fr18b]
  have H84 : Hid (∀ K, (∀ e W', (e = .returned (.bool A2) ∧ Below W.heap.size W W') → K e W') → CallsIn (Fence.wide.inRound lp) (n' - 1) Tryz.prog 84 #[.agg #[.string sx, .int .i64 tx]] W K) := Lib.hid (fun K hK => (CallsIn.inRound lp (callsIn_wide.2 (HC.out _ (Below.refl _ _)))).mono hK)
  have H82 : Hid (∀ W', Below W.heap.size W W' → ∀ K, (∀ e W'', (e = .returned (.bool A3) ∧ W' = W'') → K e W'') → CallsIn (Fence.wide.inRound lp) (n' - 1) Tryz.prog 82 #[vb, .int .i64 (x : Int)] W' K) := Lib.hid (fun W' hb K hK => (CallsIn.inRound lp (callsIn_wide.2 (HK.out _ hb))).mono hK)
  have v0 := HL.out W (Below.refl _ _) |>.kx.cell 0
  simp only [List.getElem?_cons_zero] at v0
  clear HC HK
  cases A1
  · gi_wp2
    refine ⟨trivial, (fun h => by cases h), ?_⟩
    refine H84.out _ ?_
    rintro e W2 ⟨rfl, hb2⟩
    cases A2
    · gi_wp2
      refine ⟨trivial, ?_⟩
      gi_wp2
      refine HQ.out _ _ false ?_ hb2 rfl
      apply fr18c_act <;> rfl
    · clear t0 x0 xz k0 k1 b1z bz v0
      have v0 := HL.out W2 hb2 |>.kx.cell 0
      have c0 := HBX.out W2 hb2
      have bz := HL.out W2 hb2 |>.be.lt
      simp only [List.getElem?_cons_zero] at v0
      gi_wp2
      refine ⟨trivial, (fun h => by cases h), ?_⟩
      refine H82.out _ hb2 _ ?_
      rintro e _ ⟨rfl, rfl⟩
      cases A3
      · cases A4
        · gi_wp2
          refine HQ.out _ _ A5 ?_ hb2 (by cases A5 <;> rfl)
          apply fr18c_act <;> rfl
        · gi_wp2
          refine HQ.out _ _ true ?_ hb2 rfl
          apply fr18c_act <;> rfl
      · gi_wp2
        refine HQ.out _ _ false ?_ hb2 rfl
        apply fr18c_act <;> rfl
  · have hb2 := Below.refl W.heap.size W
    have c0 := HBX.out W hb2
    gi_wp2
    refine ⟨trivial, ?_⟩
    gi_wp2
    refine ⟨trivial, (fun h => by cases h), ?_⟩
    refine H82.out _ hb2 _ ?_
    rintro e _ ⟨rfl, rfl⟩
    cases A3
    · cases A4
      · gi_wp2
        refine HQ.out _ _ A5 ?_ hb2 (by cases A5 <;> rfl)
        apply fr18c_act <;> rfl
      · gi_wp2
        refine HQ.out _ _ true ?_ hb2 rfl
        apply fr18c_act <;> rfl
    · gi_wp2
      refine HQ.out _ _ false ?_ hb2 rfl
      apply fr18c_act <;> rfl
end Go.Proofs.YtahpdkkpnkhnhaaGreatDoor

/- Walks: Route: a machine that comes: the whole body of the range. -/
namespace Go.Proofs.YtahpdkkpnkhnhaaGreatDoor
open Go Go.Proofs Go.RowKit Go.Shelf
attribute [local go_sem] Oper.semAt_some

theorem ints_set (l : List Int) (k : Nat) (v : Int) : (ints l).set k (.int .i64 v) = ints (l.set k v) := by unfold ints; rw [List.map_set]
theorem RtM.setBest {w W : World} {bb : Nat} {v1 v2 vb : Value} {to : Int} {s : RtS} (h : RtM w W bb v1 v2 vb to s) (k : Nat) (v : Int) : RtM w (W.setCell ⟨bb, k, none⟩ (.int .i64 v)) bb v1 v2 vb to ⟨s.best.set k v, s.before, s.done⟩ :=
  have := h.bg
  ⟨h.px.other _ (by dsimp only; omega), h.tx.other _ (by dsimp only; omega), h.kx.other _ (by dsimp only; omega), by rw [← ints_set]; exact h.be.set k _, h.bf.other _ (by dsimp only; omega), h.dn.other _ (by dsimp only; omega), h.bw.setCell (by dsimp only; omega) _, h.bg⟩
theorem RtM.setBefore {w W : World} {bb : Nat} {v1 v2 vb : Value} {to : Int} {s : RtS} (h : RtM w W bb v1 v2 vb to s) (k : Nat) (v : Int) : RtM w (W.setCell ⟨bb + 1, k, none⟩ (.int .i64 v)) bb v1 v2 vb to ⟨s.best, s.before.set k v, s.done⟩ :=
  have := h.bg
  ⟨h.px.other _ (by dsimp only; omega), h.tx.other _ (by dsimp only; omega), h.kx.other _ (by dsimp only; omega), h.be.other _ (by dsimp only; omega), by rw [← ints_set]; exact h.bf.set k _, h.dn.other _ (by dsimp only; omega), h.bw.setCell (by dsimp only; omega) _, h.bg⟩
theorem RtM.setDone {w W : World} {bb : Nat} {v1 v2 vb : Value} {to : Int} {s : RtS} (h : RtM w W bb v1 v2 vb to s) (k : Nat) (v : Bool) : RtM w (W.setCell ⟨bb + 1 + 1, k, none⟩ (.bool v)) bb v1 v2 vb to ⟨s.best, s.before, s.done.set k v⟩ :=
  have := h.bg
  ⟨h.px.other _ (by dsimp only; omega), h.tx.other _ (by dsimp only; omega), h.kx.other _ (by dsimp only; omega), h.be.other _ (by dsimp only; omega), h.bf.other _ (by dsimp only; omega), by rw [List.map_set]; exact h.dn.set k _, h.bw.setCell (by dsimp only; omega) _, h.bg⟩

set_option maxRecDepth 100000 in
set_option maxHeartbeats 8000000 in
theorem if27_walk (lp n' : Nat) (w W : World) (bb mb : Nat) (v1 v2 vb : Value) (to fr t m : Int) (s : RtS) (x : Nat) (c : Bool) (hm : RtM w W bb v1 v2 vb to s) (M : Int) (hb : RtB M s) (hx64 : x < 64) (hx : Box W mb 3 [.int .i64 m]) (hmb : bb + 1 + 1 < mb)
    (ds : List Deferred) (z : Nat → Value) (Q : Exit → Act → World → Prop)
    (hQ : ∀ A W', (c = false ∧ W' = W) ∨ (c = true ∧ ∃ a u b v, ((a = (⟨bb, x, none⟩ : Addr) ∧ u = Value.int .i64 t ∧ b = (⟨bb + 1, x, none⟩ : Addr) ∧ v = Value.int .i64 m) ∨ (a = (⟨bb + 1, x, none⟩ : Addr) ∧ u = Value.int .i64 m ∧ b = (⟨bb, x, none⟩ : Addr) ∧ v = Value.int .i64 t)) ∧ W' = (W.drew.setCell a u).setCell b v) → Q .normal A W') :
    if27.wpIn (Fence.wide.inRound lp) n' Tryz.prog Q { tmps := (fr18c w.heap.size bb fr mb x t c z).toArray, defers := ds } W := by
  have m0 := hx.cell 0
  have mz := hx.lt
  have e1 := hm.be.frozen
  have e2 := hm.bf.frozen
  have x1 : (0 : Int) ≤ (x : Int) ∧ (x : Int) < 64 := by omega
  obtain ⟨x1, x2⟩ := x1
  have c0 : W.cell? ⟨bb, x, none⟩ = some (.int .i64 (s.best.getD x 0)) := (hm.be.cell x).trans (ints_get (by rw [hb.l1]; exact hx64))
  have c1 : W.cell? ⟨bb + 1, x, none⟩ = some (.int .i64 (s.before.getD x 0)) := (hm.bf.cell x).trans (ints_get (by rw [hb.l2]; exact hx64))
  simp only [List.getElem?_cons_zero] at m0
  clear hx
  have hmx : Tryz.prog.follows .mixedOrders = true := by kernel_rfl
  cases c
  · have HQ := Lib.hid (fun A => hQ A W (.inl ⟨rfl, rfl⟩))
    clear hQ
    simp only [if27, bdy18, rng18, in18, rnd18, blk18, Tryz.f18, Option.getD, codeL, codeR, fr18c]
    gi_wp2
    exact HQ.out _
  · have HQ1 := Lib.hid (fun A => hQ A ((W.drew.setCell ⟨bb, x, none⟩ (.int .i64 t)).setCell ⟨bb + 1, x, none⟩ (.int .i64 m)) (.inr ⟨rfl, _, _, _, _, .inl ⟨rfl, rfl, rfl, rfl⟩, rfl⟩))
    have HQ2 := Lib.hid (fun A => hQ A ((W.drew.setCell ⟨bb + 1, x, none⟩ (.int .i64 m)).setCell ⟨bb, x, none⟩ (.int .i64 t)) (.inr ⟨rfl, _, _, _, _, .inr ⟨rfl, rfl, rfl, rfl⟩, rfl⟩))
    clear hQ
    simp only [if27, bdy18, rng18, in18, rnd18, blk18, Tryz.f18, Option.getD, codeL, codeR, fr18c]
    gi_wp2_with (fail)
    gi_region_with_o (fail)
    all_goals first | exact HQ1.out _ | exact HQ2.out _
end Go.Proofs.YtahpdkkpnkhnhaaGreatDoor

/- Walks: Route: a machine that comes: the whole body of the range. -/
namespace Go.Proofs.YtahpdkkpnkhnhaaGreatDoor
open Go Go.Proofs Go.RowKit Go.Shelf
attribute [local go_sem] Oper.semAt_some

theorem relax_set {p : Pl} {bl : List Int} {to m : Int} {s : RtS} {x : Nat} {c : Bool} (h : relaxB p bl to m s x = c) : relax p bl to m s x = if c then ⟨s.best.set x (s.best.getD m.toNat 0 + tAt p x), s.before.set x m, s.done⟩ else s := by
  unfold relax; rw [h, Int.toNat_natCast]
theorem NxR.later' {w w' : World} {q B : Nat} {v1 v2 : Value} {p : Pl} {m : Int} (h : NxR w q B v1 v2 p m) (hb : Below w.heap.size w w') : NxR w' q B v1 v2 p m := h.later hb

set_option maxHeartbeats 1000000 in
theorem bdy18_walk (lp n' : Nat) (w W : World) (bb mb q : Nat) (c1 b1 off1 : Nat) (v2 vb : Value) (p : Pl) (bl : List Int) (to fr : Int) (m : Nat) (s1 : RtS) (M : Int) (B0 : Nat) (pre : List (Nxt p m)) (x : Nxt p m) (z : Nat → Value) (ds : List Deferred)
    (hM : M ≤ 100000000000) (hpre : pre.length ≤ 1000) (hok : OkP p) (hwd : WdR w) (hbl : Sl encI 1 w w.heap.size vb bl) (hbb : b1 < w.heap.size) (hat : ∀ k (h : k < p.ms.length), At w b1 (off1 + k * 2) [.string p.ms[k].kind, .int .i64 p.ms[k].time])
    (hnc : p.ms.length ≤ c1 ∧ True) (hm64 : m < 64) (hmb : bb + 1 + 1 < mb) (hq : bb + 1 + 1 < q)
    (hin : InR18 w bb mb q (.slice (some ⟨b1, off1, none⟩) p.ms.length c1) v2 vb p bl to m s1 M pre W) (Ix : Code → List (Nxt p m) → World → Prop) (I : List (Nxt p m) → World → Prop)
    (hI : ∀ W', KeepsOthers W W' → InR18 w bb mb q (.slice (some ⟨b1, off1, none⟩) p.ms.length c1) v2 vb p bl to m s1 M (pre ++ [x]) W' → I (pre ++ [x]) W') :
    bdy18.wpIn (Fence.wide.inRound lp) n' Tryz.prog (ownPostG B0 (KpN q w.heap.size (.slice (some ⟨b1, off1, none⟩) p.ms.length c1) v2 p m) I Ix (pre ++ [x]) W)
      { tmps := (fr18a w.heap.size bb fr mb x.1 z).toArray, defers := ds } W := by
  obtain ⟨hrt, hbd, hmx, hnx⟩ := hin
  obtain ⟨h1, h2, h3, _, _⟩ := hok.ins _ x.2
  obtain ⟨xi, hxa⟩ := x
  dsimp only at *
  have hxi : 0 ≤ xi ∧ xi < p.ms.length := by unfold inN at h2; simpa using h2
  obtain ⟨xn, rfl⟩ : ∃ k : Nat, xi = k := ⟨xi.toNat, by omega⟩
  have hxn : xn < p.ms.length := by omega
  have hple := hok.le
  have ht := hok.times _ (List.getElem_mem hxn)
  have hta : tAt p xn = p.ms[xn].time := tAt_nat hxn
  have hka : kdA p xn = p.ms[xn].kind := kdA_nat hxn
  have hM2 : M + 100000 * (pre.length : Int) ≤ 1000000000000 := by omega
  have hfold : ((pre ++ [(⟨(xn : Int), hxa⟩ : Nxt p m)]).map Subtype.val).foldl (relax p bl to m) s1 = relax p bl to m ((pre.map Subtype.val).foldl (relax p bl to m) s1) xn := by rw [List.map_append, List.foldl_append]; rfl
  have hbd' : RtB (M + 100000 * ((pre ++ [(⟨(xn : Int), hxa⟩ : Nxt p m)]).length : Int)) (((pre ++ [(⟨(xn : Int), hxa⟩ : Nxt p m)]).map Subtype.val).foldl (relax p bl to m) s1) := by
    rw [hfold]
    have := relax_bd (p := p) (bl := bl) (to := to) (x := (xn : Int)) (m := (m : Int)) hbd (by rw [hta]; exact ht) (by omega)
    rw [List.length_append, List.length_singleton]
    rw [show M + 100000 * ((pre.length + 1 : Nat) : Int) = M + 100000 * (pre.length : Int) + 100000 by push_cast; omega]
    exact this
  have hpost : ∀ A W', RtM w W' bb (.slice (some ⟨b1, off1, none⟩) p.ms.length c1) v2 vb to (relax p bl to m ((pre.map Subtype.val).foldl (relax p bl to m) s1) xn) → Box W' mb 3 [.int .i64 m] → NxR W' q w.heap.size (.slice (some ⟨b1, off1, none⟩) p.ms.length c1) v2 p m → KeepsOthers W W' →
      KpN q w.heap.size (.slice (some ⟨b1, off1, none⟩) p.ms.length c1) v2 p m W W' → ownPostG B0 (KpN q w.heap.size (.slice (some ⟨b1, off1, none⟩) p.ms.length c1) v2 p m) I Ix (pre ++ [(⟨(xn : Int), hxa⟩ : Nxt p m)]) W .normal A W' :=
    fun A W' k1 k2 k3 k4 k5 => ⟨k4.from _, k5, hI _ k4 (by rw [← hfold] at k1; exact ⟨k1, hbd', k2, k3⟩)⟩
  generalize hS : (pre.map Subtype.val).foldl (relax p bl to m) s1 = s at *
  generalize ownPostG B0 (KpN q w.heap.size (.slice (some ⟨b1, off1, none⟩) p.ms.length c1) v2 p m) I Ix (pre ++ [(⟨(xn : Int), hxa⟩ : Nxt p m)]) W = Q at *
  rw [bdy18_eq]
  refine wpIn_block (wpIn_seq ?_)
  have hbet : s.best.getD m 0 = s.best.getD (m : Int).toNat 0 := by rw [Int.toNat_natCast]
  refine r25_walk lp n' w W bb mb _ c1 b1 off1 v2 vb p to fr s _ m xn hrt hbd hM2 hmx hm64 hxn hnc p.ms[xn].kind p.ms[xn].time (hat xn hxn) hbb ht ds z _ fun z1 k1 => ?_
  simp only [Exit.then]
  refine wpIn_seq ?_
  have hB1 : Below W.heap.size W (W.drewN k1) := below_drewN (Below.refl _ _) k1
  refine r26_walk lp n' w (W.drewN k1) bb mb _ c1 b1 off1 v2 vb to fr _ s xn (hrt.later hB1) (by rw [hbd.l1]; omega) hxn hok.le hnc p.ms[xn].kind p.ms[xn].time (hat xn hxn) hbb hwd bl hbl ds z1 _ fun z2 W2 hb2 => ?_
  have hB2 : Below W.heap.size W W2 := hB1.trans (hb2.mono hB1.size)
  simp only [Exit.then]
  refine if27_walk lp n' w W2 bb mb _ v2 vb to fr _ m s xn _ (hrt.later hB2) _ hbd (by omega) (hmx.later hB2) hmb ds z2 _ fun A W3 h => ?_
  have hkp : KpN q w.heap.size (.slice (some ⟨b1, off1, none⟩) p.ms.length c1) v2 p m W W2 := ⟨fun i => i.later hB2, hB2.size⟩
  have hko : KeepsOthers W W2 := ⟨hB2.size, fun i o hi _ => (hB2.block i (Array.getElem?_eq_some_iff.1 hi).1).trans hi⟩
  have hrb : relaxB p bl to m s xn = (((xn : Int) == to || cvB p.ms[xn].kind) && !bl.contains (xn : Int) && (s.best.getD xn 0 == 0 || decide (s.best.getD m 0 + p.ms[xn].time < s.best.getD xn 0))) := by
    unfold relaxB
    rw [hka, hta, Int.toNat_natCast, Int.toNat_natCast]
  have hrs := relax_set hrb
  rw [Int.toNat_natCast, hta] at hrs
  simp only [Exit.inBlock]
  rcases h with ⟨hc, rfl⟩ | ⟨hc, a, u, b, v, hab, rfl⟩
  · rw [hc, if_neg (by simp)] at hrs
    exact hpost _ _ (by rw [hrs]; exact hrt.later hB2) (hmx.later hB2) (hnx.later hB2) hko hkp
  · rw [hc, if_pos rfl] at hrs
    have hB3 : Below W2.heap.size W2 W2.drew := below_drewN (Below.refl _ _) 1
    have hB4 : Below W.heap.size W (W2.drew) := hB2.trans (hB3.mono hB2.size)
    have hrt3 := hrt.later hB4
    have hmx3 := hmx.later hB4
    have hnx3 := hnx.later hB4
    have hko3 : KeepsOthers W (W2.drew) := ⟨hB4.size, fun i o hi _ => (hB4.block i (Array.getElem?_eq_some_iff.1 hi).1).trans hi⟩
    have hbg := hrt.bg
    rcases hab with ⟨rfl, rfl, rfl, rfl⟩ | ⟨rfl, rfl, rfl, rfl⟩
    · have e : ∀ {X : World}, NxR X q w.heap.size (.slice (some ⟨b1, off1, none⟩) p.ms.length c1) v2 p m → NxR ((X.setCell ⟨bb, xn, none⟩ (.int .i64 (s.best.getD m 0 + p.ms[xn].time))).setCell ⟨bb + 1, xn, none⟩ (.int .i64 m)) q w.heap.size (.slice (some ⟨b1, off1, none⟩) p.ms.length c1) v2 p m := fun h =>
        (h.set _ (by dsimp only; omega) (by dsimp only; omega) (by dsimp only; omega)).set _ (by dsimp only; omega) (by dsimp only; omega) (by dsimp only; omega)
      refine hpost _ _ (by rw [hrs]; exact (hrt3.setBest xn _).setBefore xn _) ((hmx3.other _ (by dsimp only; omega)).other _ (by dsimp only; omega)) (e hnx3) ((hko3.trans (KeepsOthers.setCell _ _ _)).trans (KeepsOthers.setCell _ _ _)) ⟨fun i => e (i.later hB4), by simpa using hB4.size⟩
    · have e : ∀ {X : World}, NxR X q w.heap.size (.slice (some ⟨b1, off1, none⟩) p.ms.length c1) v2 p m → NxR ((X.setCell ⟨bb + 1, xn, none⟩ (.int .i64 m)).setCell ⟨bb, xn, none⟩ (.int .i64 (s.best.getD m 0 + p.ms[xn].time))) q w.heap.size (.slice (some ⟨b1, off1, none⟩) p.ms.length c1) v2 p m := fun h =>
        (h.set _ (by dsimp only; omega) (by dsimp only; omega) (by dsimp only; omega)).set _ (by dsimp only; omega) (by dsimp only; omega) (by dsimp only; omega)
      refine hpost _ _ (by rw [hrs]; exact (hrt3.setBefore xn _).setBest xn _) ((hmx3.other _ (by dsimp only; omega)).other _ (by dsimp only; omega)) (e hnx3) ((hko3.trans (KeepsOthers.setCell _ _ _)).trans (KeepsOthers.setCell _ _ _)) ⟨fun i => e (i.later hB4), by simpa using hB4.size⟩
end Go.Proofs.YtahpdkkpnkhnhaaGreatDoor

/- Walks: Route: the range over the machines that the chosen one can feed. -/
namespace Go.Proofs.YtahpdkkpnkhnhaaGreatDoor
open Go Go.Proofs Go.RowKit Go.Shelf
attribute [local go_sem] Oper.semAt_some

def fr18n (N bb : Nat) (fr : Int) (mb : Nat) (x : Int) (z : Nat → Value) : List Value := [z 0, .int .i64 fr, z 2, z 3, .pointer (some ⟨N, 0, none⟩), z 5, .pointer (some ⟨N + 1, 0, none⟩), .pointer (some ⟨N + 1 + 1, 0, none⟩), z 8, z 9, z 10, z 11, .pointer (some ⟨bb, 0, none⟩), .pointer (some ⟨bb + 1, 0, none⟩), .pointer (some ⟨bb + 1 + 1, 0, none⟩), .pointer (some ⟨mb, 0, none⟩), z 16, z 17, z 18, z 19, z 20, z 21, z 22, z 23, z 24, z 25, z 26, z 27, z 28, z 29, z 30, z 31, z 32, z 33, z 34, z 35, z 36, z 37, z 38, z 39, z 40, z 41, z 42, z 43, z 44, z 45, z 46, z 47, z 48, z 49, z 50, z 51, z 52, z 53, z 54, z 55, z 56, z 57, z 58, z 59, z 60, z 61, z 62, z 63, z 64, z 65, z 66, z 67, z 68, z 69, z 70, z 71, z 72, z 73, z 74, z 75, z 76, z 77, z 78, z 79, z 80, z 81, z 82, z 83, z 84, z 85, z 86, z 87, z 88, z 89, z 90, z 91, z 92, z 93, z 94, z 95, z 96, z 97, z 98, z 99, z 100, z 101, z 102, z 103, z 104, z 105, z 106, z 107, z 108, z 109, .int .i64 x, z 111, z 112, z 113, z 114, z 115, z 116, z 117, z 118, z 119, z 120, z 121, z 122, z 123, z 124, z 125, z 126, z 127, z 128, z 129, z 130, z 131, z 132, z 133, z 134, z 135, z 136, z 137, z 138, z 139, z 140, z 141, z 142, z 143, z 144, z 145, z 146, z 147, z 148, z 149, z 150, z 151, z 152, z 153, z 154, z 155, z 156, z 157, z 158, z 159, z 160, z 161, z 162, z 163, z 164, z 165, z 166, z 167, z 168, z 169, z 170, z 171, z 172]
theorem fr18n_of (N bb : Nat) (fr : Int) (mb : Nat) (x : Int) (L : List Value) (hL : L.length = 173) (h1 : L[1]? = some (.int .i64 fr)) (h4 : L[4]? = some (.pointer (some ⟨N, 0, none⟩))) (h6 : L[6]? = some (.pointer (some ⟨N + 1, 0, none⟩))) (h7 : L[7]? = some (.pointer (some ⟨N + 1 + 1, 0, none⟩))) (h12 : L[12]? = some (.pointer (some ⟨bb, 0, none⟩))) (h13 : L[13]? = some (.pointer (some ⟨bb + 1, 0, none⟩))) (h14 : L[14]? = some (.pointer (some ⟨bb + 1 + 1, 0, none⟩))) (h15 : L[15]? = some (.pointer (some ⟨mb, 0, none⟩))) (h110 : L[110]? = some (.int .i64 x)) : ∃ z, L = fr18n N bb fr mb x z := by
  refine ⟨fun i => L.getD i undef, ?_⟩
  unfold fr18n
  have e := list_range L 173 hL
  have e1 : L.getD 1 undef = .int .i64 fr := by rw [List.getD_eq_getElem?_getD, h1]; rfl
  have e4 : L.getD 4 undef = .pointer (some ⟨N, 0, none⟩) := by rw [List.getD_eq_getElem?_getD, h4]; rfl
  have e6 : L.getD 6 undef = .pointer (some ⟨N + 1, 0, none⟩) := by rw [List.getD_eq_getElem?_getD, h6]; rfl
  have e7 : L.getD 7 undef = .pointer (some ⟨N + 1 + 1, 0, none⟩) := by rw [List.getD_eq_getElem?_getD, h7]; rfl
  have e12 : L.getD 12 undef = .pointer (some ⟨bb, 0, none⟩) := by rw [List.getD_eq_getElem?_getD, h12]; rfl
  have e13 : L.getD 13 undef = .pointer (some ⟨bb + 1, 0, none⟩) := by rw [List.getD_eq_getElem?_getD, h13]; rfl
  have e14 : L.getD 14 undef = .pointer (some ⟨bb + 1 + 1, 0, none⟩) := by rw [List.getD_eq_getElem?_getD, h14]; rfl
  have e15 : L.getD 15 undef = .pointer (some ⟨mb, 0, none⟩) := by rw [List.getD_eq_getElem?_getD, h15]; rfl
  have e110 : L.getD 110 undef = .int .i64 x := by rw [List.getD_eq_getElem?_getD, h110]; rfl
  rw [← e1, ← e4, ← e6, ← e7, ← e12, ← e13, ← e14, ← e15, ← e110]
  exact e
theorem fr18n_act (N bb : Nat) (fr : Int) (mb : Nat) (x : Int) (A : Act) (ds : List Deferred) (hds : A.defers = ds) (hL : A.tmps.size = 173) (h1 : A.tmps[1]? = some (.int .i64 fr)) (h4 : A.tmps[4]? = some (.pointer (some ⟨N, 0, none⟩))) (h6 : A.tmps[6]? = some (.pointer (some ⟨N + 1, 0, none⟩))) (h7 : A.tmps[7]? = some (.pointer (some ⟨N + 1 + 1, 0, none⟩))) (h12 : A.tmps[12]? = some (.pointer (some ⟨bb, 0, none⟩))) (h13 : A.tmps[13]? = some (.pointer (some ⟨bb + 1, 0, none⟩))) (h14 : A.tmps[14]? = some (.pointer (some ⟨bb + 1 + 1, 0, none⟩))) (h15 : A.tmps[15]? = some (.pointer (some ⟨mb, 0, none⟩))) (h110 : A.tmps[110]? = some (.int .i64 x)) : ∃ z, A = { tmps := (fr18n N bb fr mb x z).toArray, defers := ds } := by
  obtain ⟨z, e⟩ := fr18n_of N bb fr mb x A.tmps.toList (by rw [Array.length_toList]; exact hL) (by rw [Array.getElem?_toList]; exact h1) (by rw [Array.getElem?_toList]; exact h4) (by rw [Array.getElem?_toList]; exact h6) (by rw [Array.getElem?_toList]; exact h7) (by rw [Array.getElem?_toList]; exact h12) (by rw [Array.getElem?_toList]; exact h13) (by rw [Array.getElem?_toList]; exact h14) (by rw [Array.getElem?_toList]; exact h15) (by rw [Array.getElem?_toList]; exact h110)
  exact ⟨z, by cases A; subst hds; dsimp only at e ⊢; rw [← e]⟩


set_option maxRecDepth 100000 in
set_option maxHeartbeats 1000000 in
theorem asg18_walk (N bb : Nat) (fr : Int) (mb lp n' : Nat) (x : Int) (W : World) (z : Nat → Value) (K : Act → World → Prop)
    (hK : ∀ z', K { tmps := (fr18a N bb fr mb x z').toArray, defers := [] } W) :
    asg18.wpIn (Fence.wide.inRound lp) n' Tryz.prog (Exit.then K (fun _ _ _ => False)) { tmps := (fr18n N bb fr mb x z).toArray, defers := [] } W := by
  have HK := Lib.hid hK
  clear hK
  have HX : Hid (∀ A, (∃ z', A = { tmps := (fr18a N bb fr mb x z').toArray, defers := [] }) → K A W) := Lib.hid (by
    rintro A ⟨z', rfl⟩; exact HK.out z')
  simp only [asg18, rng18, in18, rnd18, blk18, Tryz.f18, Option.getD, codeL, codeR, fr18n]
  gi_wp2
  refine HX.out _ ?_
  apply fr18a_act <;> rfl

theorem KpN.b {q B : Nat} {v1 v2 : Value} {p : Pl} {m : Int} (W : World) (k : Nat) (o o' : Obj) (hk : B ≤ k) (h : W.heap[k]? = some o) (ho : o.isCells = false) : KpN q B v1 v2 p m W (W.putObj k o') :=
  ⟨fun hi => hi.grown (grownBy_putObj' W k o') (fun r e => by cases e; exact ⟨o, h, ho⟩) (fun r e => by cases e; exact hk), (grownBy_putObj' W k o').size⟩

set_option maxRecDepth 100000 in
set_option maxHeartbeats 400000 in
theorem rng18_walk (w W : World) (bb mb q : Nat) (c1 b1 off1 : Nat) (v2 vb : Value) (p : Pl) (bl : List Int) (to fr : Int) (m : Nat) (s1 : RtS) (M : Int) (z : Nat → Value)
    (hM : M ≤ 100000000000) (hok : OkP p) (hwd : WdR w) (hbl : Sl encI 1 w w.heap.size vb bl) (hbb : b1 < w.heap.size) (hat : ∀ k (h : k < p.ms.length), At w b1 (off1 + k * 2) [.string p.ms[k].kind, .int .i64 p.ms[k].time])
    (hnc : p.ms.length ≤ c1 ∧ True) (hm64 : m < 64) (hmb : bb + 1 + 1 < mb) (hq : bb + 1 + 1 < q)
    (hin : InR18 w bb mb q (.slice (some ⟨b1, off1, none⟩) p.ms.length c1) v2 vb p bl to m s1 M [] W) (h109 : z 109 = .func (.func 139) #[] #[.pointer (some ⟨q, 0, none⟩), .pointer (some ⟨q + 1, 0, none⟩)]) (Ds : List Nat) (hDs : MarksIn W Ds) (Q : Exit → Act → World → Prop)
    (hdone : ∀ (D : Nat) (xs : List (Nxt p m)) (W' : World), W.heap.size ≤ D → xs.map Subtype.val = nextL p m → InR18 w bb mb q (.slice (some ⟨b1, off1, none⟩) p.ms.length c1) v2 vb p bl to m s1 M xs W' → W'.heap[D]? = some (.deferred (some [])) → MarksIn W' Ds →
      Q .normal { tmps := (fr18m w.heap.size bb fr mb z).toArray, defers := marksOf (D :: Ds) } W') :
    rng18.wp Tryz.prog Q { tmps := (fr18m w.heap.size bb fr mb z).toArray, defers := marksOf Ds } W := by
  refine (wpIn_wide (n := 9)).1 ?_
  rw [rng18_eq]
  have hW : w.heap.size ≤ W.heap.size := hin.rt.bw.size
  refine wpIn_rangeFunc_ownH rfl (by omega) (gf := 139) (lb := #[.pointer (some ⟨q, 0, none⟩), .pointer (some ⟨q + 1, 0, none⟩)]) h109 trivial (enters_of Tryz.func139 (by kernel_rfl) rfl)
    (next_stops 8 (by omega) q w.heap.size _ _ c1 v2 p m hok.ale W hin.nx) KpN.t (fun W' k o o' hk h ho _ => KpN.b W' k o o' (Nat.le_trans hW hk) h ho) (Below.refl _ _) (fun _ => rfl)
    (fun xs W' => InR18 w bb mb q (.slice (some ⟨b1, off1, none⟩) p.ms.length c1) v2 vb p bl to m s1 M xs W' ∧ MarksIn W' Ds) (fun _ _ _ => False) (fun s A A' row h hg hr => ⟨InR18.own hW s A A' row h.1 hg hr, fun D hD => (hg.block D (Array.getElem?_eq_some_iff.1 (h.2 D hD)).1 (fun e => by have h1 := (hr D e.symm).1; have h2 := (Array.getElem?_eq_some_iff.1 (hDs D hD)).1; omega)).trans (h.2 D hD)⟩) (fun c => fun s A A' row h _ _ => h) ⟨hin, hDs⟩
    (fun x a' _ => ∃ z', a' = { tmps := (fr18a w.heap.size bb fr mb x.1 z').toArray, defers := [] })
    (fun x a' => fun _ A A' row h _ _ => h) ?_ ?_ ?_ ?_
  · intro lp pre x W1 K hI hK
    have ef : ((#[110] : Array Tmp).zip (encN x.1)).foldl (fun t (p, v) => t.setIfInBounds p v) (fr18m w.heap.size bb fr mb z).toArray = ((fr18m w.heap.size bb fr mb z).set 110 (.int .i64 x.1)).toArray := by
      simp [encN]
    obtain ⟨z', hz'⟩ := fr18n_of w.heap.size bb fr mb x.1 ((fr18m w.heap.size bb fr mb z).set 110 (.int .i64 x.1))
      (by rfl) (by rfl) (by rfl) (by rfl) (by rfl) (by rfl) (by rfl) (by rfl) (by rfl) (by rfl)
    rw [ef, hz']
    refine asg18_walk w.heap.size bb fr mb lp _ x.1 W1 z' K fun z'' => ?_
    exact hK _ _ (KeepsFrom.refl _ _) ⟨id, Nat.le_refl _⟩ hI ⟨z'', rfl⟩
  · rintro lp pre x a' W1 _ _ hI ⟨z', rfl⟩ hlen
    exact bdy18_walk lp _ w W1 bb mb q c1 b1 off1 v2 vb p bl to fr m s1 M W.heap.size pre x z' [] hM (by omega) hok hwd hbl hbb hat hnc hm64 hmb hq hI.1 _ _ (fun W' hk h => ⟨h, hI.2.keeps hk⟩)
  · intro D xs W1 hD hS hI hK
    exact hdone D xs W1 hD hS hI.1 hK hI.2
  · rintro D c pre W1 hD _ hO hK
    exact hO.elim
end Go.Proofs.YtahpdkkpnkhnhaaGreatDoor
