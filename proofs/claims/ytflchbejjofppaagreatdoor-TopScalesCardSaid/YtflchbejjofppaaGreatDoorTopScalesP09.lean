/- Lemmas on the way to the law TopScales (part 9): WNr WNs WNt WNu -/
import Derived.Test.YtflchbejjofppaaGreatDoorTopScalesP06
import Derived.Test.YtflchbejjofppaaGreatDoorTopScalesP08
import Derived.Deep.RegionHeld3
import Derived.Deep.AppendLies
import Derived.IntWalk
import Derived.RegionTactic
import Derived.BigRegion
set_option linter.unusedVariables false
set_option linter.unusedSimpArgs false

/- The network of a book: its arcs; settle's code in pieces; its first loop. -/
namespace Go.Proofs.YtflchbejjofppaaGreatDoor
open Go Go.Proofs Go.RowKit
def tkAc (t : Tk) : Ac := ⟨(t.fr + 1).toNat, (t.to + 1).toNat, t.m.lo, t.m.hi, t.m.lo⟩
def stAc (p : Nat) (r : Rg) : Ac := ⟨p + 1, 0, r.lo, r.hi, r.lo⟩
def stTo (st : List Rg) (k : Nat) : List Ac := (List.range k).map fun p => stAc p (st.getD p default)
theorem stTo_succ (st : List Rg) (k : Nat) (h : k < st.length) : stTo st (k + 1) = stTo st k ++ [stAc k st[k]] := by
  unfold stTo; rw [List.range_succ, List.map_append]; simp [List.getD_eq_getElem?_getD, h]
def arcsOf (b : Bk) : List Ac := b.ts.map tkAc ++ stTo b.st b.st.length
theorem Tryz.info106 : (Tryz.prog.info? 92).map (fun i => (i.zero, i.size, i.bytes)) = some (some (.agg #[.int .i64 0, .int .i64 0, .int .i64 0, .int .i64 0, .int .i64 0]), 5, 40) := by kernel_rfl
theorem Ac.encW_one (x : Ac) : ∀ u ∈ x.encW, u.oneCell' = true := by simp [Ac.encW, Value.oneCell']
structure OkBk (b : Bk) : Prop where
  st32 : b.st.length ≤ 32
  ts128 : b.ts.length ≤ 128
  st : ∀ r ∈ b.st, -999999999 ≤ r.lo ∧ r.lo ≤ r.hi ∧ r.hi ≤ 999999999
  tk : ∀ t ∈ b.ts, -1 ≤ t.fr ∧ t.fr < b.st.length ∧ -1 ≤ t.to ∧ t.to < b.st.length ∧ t.fr ≠ t.to ∧ 0 ≤ t.m.lo ∧ t.m.lo ≤ t.m.hi ∧ t.m.hi ≤ 999999999
theorem okBk_of {b : Bk} (h : ckBook b = 0) : OkBk b := by
  obtain ⟨h1, h2, h3, h4⟩ := (ckBook_ok b).1 h
  refine ⟨h1, h3, fun r hr => ckRange_ok.1 (h2 r hr), fun t ht => ?_⟩
  obtain ⟨i, hi⟩ := List.mem_iff_getElem?.1 ht
  obtain ⟨_, _, p1, p2, p3, p4⟩ := ckTk_ok (h4 i t hi)
  have h5 := ckMass_ok.1 p4
  simp only [badPl, Bool.or_eq_false_iff, decide_eq_false_iff_not] at p1 p2
  exact ⟨by omega, by omega, by omega, by omega, p3, h5⟩
def fr72 (N : Nat) (s9 s10 s11 s14 s15 : Value) (z : Nat → Value) : List Value := [z 0, .pointer (some ⟨N, 0, none⟩), .pointer none, .bool false, .pointer (some ⟨N + 1, 0, none⟩), z 5, z 6, z 7, z 8, s9, s10, s11, z 12, z 13, s14, s15, z 16, z 17, z 18, z 19, z 20, z 21, z 22, z 23, z 24, z 25, z 26, z 27, z 28, z 29, z 30, z 31, z 32, z 33, z 34, z 35, z 36, z 37, z 38, z 39, z 40, z 41, z 42, z 43, z 44, z 45, z 46, z 47, z 48, z 49, z 50, z 51, z 52, z 53, z 54, z 55, z 56, z 57, z 58, z 59, z 60, z 61, z 62, z 63, z 64, z 65, z 66, z 67, z 68, z 69, z 70, z 71, z 72, z 73, z 74, z 75, z 76, z 77, z 78, z 79, z 80, z 81, z 82, z 83, z 84, z 85, z 86, z 87, z 88, z 89, z 90, z 91, z 92, z 93, z 94, z 95, z 96, z 97, z 98, z 99, z 100, z 101, z 102, z 103, z 104, z 105, z 106, z 107, z 108, z 109, z 110, z 111, z 112, z 113, z 114, z 115, z 116, z 117, z 118, z 119, z 120, z 121, z 122, z 123, z 124, z 125, z 126, z 127, z 128, z 129, z 130, z 131, z 132, z 133, z 134, z 135, z 136, z 137, z 138, z 139, z 140, z 141, z 142, z 143, z 144, z 145, z 146, z 147, z 148, z 149, z 150, z 151, z 152, z 153, z 154, z 155, z 156, z 157, z 158, z 159, z 160, z 161, z 162, z 163, z 164, z 165, z 166, z 167, z 168, z 169, z 170, z 171, z 172, z 173, z 174, z 175, z 176, z 177, z 178, z 179, z 180, z 181, z 182, z 183, z 184, z 185, z 186, z 187, z 188, z 189, z 190, z 191, z 192]
theorem fr72_of (N : Nat) (s9 s10 s11 s14 s15 : Value) (L : List Value) (hL : L.length = 193) (h1 : L[1]? = some (.pointer (some ⟨N, 0, none⟩))) (h2 : L[2]? = some (.pointer none)) (h3 : L[3]? = some (.bool false)) (h4 : L[4]? = some (.pointer (some ⟨N + 1, 0, none⟩))) (h9 : L[9]? = some (s9)) (h10 : L[10]? = some (s10)) (h11 : L[11]? = some (s11)) (h14 : L[14]? = some (s14)) (h15 : L[15]? = some (s15)) : ∃ z, L = fr72 N s9 s10 s11 s14 s15 z := by
  refine ⟨fun i => L.getD i undef, ?_⟩
  unfold fr72
  have e := list_range L 193 hL
  have e1 : L.getD 1 undef = .pointer (some ⟨N, 0, none⟩) := by rw [List.getD_eq_getElem?_getD, h1]; rfl
  have e2 : L.getD 2 undef = .pointer none := by rw [List.getD_eq_getElem?_getD, h2]; rfl
  have e3 : L.getD 3 undef = .bool false := by rw [List.getD_eq_getElem?_getD, h3]; rfl
  have e4 : L.getD 4 undef = .pointer (some ⟨N + 1, 0, none⟩) := by rw [List.getD_eq_getElem?_getD, h4]; rfl
  have e9 : L.getD 9 undef = s9 := by rw [List.getD_eq_getElem?_getD, h9]; rfl
  have e10 : L.getD 10 undef = s10 := by rw [List.getD_eq_getElem?_getD, h10]; rfl
  have e11 : L.getD 11 undef = s11 := by rw [List.getD_eq_getElem?_getD, h11]; rfl
  have e14 : L.getD 14 undef = s14 := by rw [List.getD_eq_getElem?_getD, h14]; rfl
  have e15 : L.getD 15 undef = s15 := by rw [List.getD_eq_getElem?_getD, h15]; rfl
  rw [← e1, ← e2, ← e3, ← e4, ← e9, ← e10, ← e11, ← e14, ← e15]
  exact e
theorem fr72_act (N : Nat) (s9 s10 s11 s14 s15 : Value) (A : Act) (ds : List Deferred) (hds : A.defers = ds) (hL : A.tmps.size = 193) (h1 : A.tmps[1]? = some (.pointer (some ⟨N, 0, none⟩))) (h2 : A.tmps[2]? = some (.pointer none)) (h3 : A.tmps[3]? = some (.bool false)) (h4 : A.tmps[4]? = some (.pointer (some ⟨N + 1, 0, none⟩))) (h9 : A.tmps[9]? = some (s9)) (h10 : A.tmps[10]? = some (s10)) (h11 : A.tmps[11]? = some (s11)) (h14 : A.tmps[14]? = some (s14)) (h15 : A.tmps[15]? = some (s15)) : ∃ z, A = { tmps := (fr72 N s9 s10 s11 s14 s15 z).toArray, defers := ds } := by
  obtain ⟨z, e⟩ := fr72_of N s9 s10 s11 s14 s15 A.tmps.toList (by rw [Array.length_toList]; exact hL) (by rw [Array.getElem?_toList]; exact h1) (by rw [Array.getElem?_toList]; exact h2) (by rw [Array.getElem?_toList]; exact h3) (by rw [Array.getElem?_toList]; exact h4) (by rw [Array.getElem?_toList]; exact h9) (by rw [Array.getElem?_toList]; exact h10) (by rw [Array.getElem?_toList]; exact h11) (by rw [Array.getElem?_toList]; exact h14) (by rw [Array.getElem?_toList]; exact h15)
  exact ⟨z, by cases A; subst hds; dsimp only at e ⊢; rw [← e]⟩
noncomputable def c72 : Code := Tryz.f36.body.getD .skip
noncomputable def p72a : Code := codeL (codeR (codeR c72))
noncomputable def p72b : Code := codeL (codeR (codeR (codeR c72)))
noncomputable def q72 : Code := codeR (codeR (codeR (codeR c72)))
theorem c72_eq : c72 = .seq (codeL c72) (.seq (codeL (codeR c72)) (.seq p72a (.seq p72b q72))) := rfl
structure SetW (w W : World) (N : Nat) (v1 v2 v : Value) (b : Bk) (l : List Ac) : Prop where
  hN : N = w.heap.size
  book : BkR w w.heap.size v1 v2 b
  box : Box W N 25 [v1, v2]
  net : NetR W N (N + 1) v l b.ts.length b.st.length (List.replicate 36 false)
  ne : v.ownBlock ≠ some N
  below : Below N w W
theorem SetW.later {w W W' : World} {N : Nat} {v1 v2 v : Value} {b : Bk} {l : List Ac} (h : SetW w W N v1 v2 v b l) (hb : Below W.heap.size W W') : SetW w W' N v1 v2 v b l :=
  ⟨h.hN, h.book, h.box.later hb, h.net.later hb, h.ne, h.below.trans (hb.mono (by rw [h.hN]; rw [h.hN] at h; exact h.below.size))⟩
theorem Own.other_type {α : Type} {f : α → List Value} {sz : Nat} {e e' : TypeId} {w : World} {base : Nat} {v : Value} {l : List α} (h : Own f sz e w base v l) {k : Nat} {vs : List Value} (hb : Box w k e' vs) (hne : e' ≠ e) : v.ownBlock ≠ some k := fun he => by
  rcases h.2 with ⟨rfl, _⟩ | ⟨g, cap, cur, rfl, _, hg, _⟩
  · simp [Value.ownBlock] at he
  · obtain rfl : g = k := by simpa [Value.ownBlock] using he
    rw [show w.heap[g]? = _ from hb] at hg
    cases hg
    exact hne rfl
theorem SetW.pushed {w W0 w2 w' : World} {N : Nat} {v1 v2 v v' : Value} {b : Bk} {l l' : List Ac} (h : SetW w W0 N v1 v2 v b l) (hb : Below W0.heap.size W0 w2) (hg : w2.grownBy w' v.ownBlock) (hown : Own Ac.encW 5 92 w' N v' l') :
    SetW w (w'.setCell ⟨N + 1, 0, none⟩ v') N v1 v2 v' b l' := by
  have h2 := h.later hb
  have hbx := h2.box.grown hg (Ne.symm h2.ne)
  have hnb := h2.net.box.grown hg (Ne.symm h2.net.ne)
  have n1 := hown.other_type hbx (by decide)
  have n2 := hown.other_type hnb (by decide)
  refine ⟨h.hN, h.book, hbx.other _ (by dsimp only; omega), ⟨hnb.set 0 v', hown.other _ n2, n2, h.net.n36⟩, n1, ?_⟩
  have hN := h2.box.lt
  refine (h2.below.grown hg (by omega) fun k hk => ?_).setCell (by dsimp only; omega) _
  exact (World.ownsRow.lt h2.net.own k hk).1
set_option maxRecDepth 100000 in
set_option maxHeartbeats 1000000 in
theorem p72a_walk (w W : World) (N : Nat) (v1 v2 : Value) (b : Bk) (hok : OkBk b) (s9 s10 s11 s14 s15 : Value) (z : Nat → Value) (hw : SetW w W N v1 v2 (.slice none 0 0) b []) :
    p72a.wp Tryz.prog (fun e a W' => e = .normal ∧ (∃ z', a = { tmps := (fr72 N s9 s10 s11 s14 s15 z').toArray, defers := [] }) ∧ ∃ v, SetW w W' N v1 v2 v b (b.ts.map tkAc)) { tmps := (fr72 N s9 s10 s11 s14 s15 z).toArray, defers := [] } W := by
  obtain ⟨Q, hQ⟩ : ∃ Q : Exit → Act → World → Prop, (fun (e : Exit) (a : Act) (W' : World) => e = Exit.normal ∧ (∃ z', a = ({ tmps := (fr72 N s9 s10 s11 s14 s15 z').toArray, defers := [] } : Act)) ∧ ∃ v, SetW w W' N v1 v2 v b (b.ts.map tkAc)) = Q := ⟨_, rfl⟩
  rw [hQ]
  have HQ := Lib.hid hQ
  clear hQ
  have HOK := Lib.hid hok
  have HW := Lib.hid hw
  obtain ⟨⟨a1, n1, hv1, hl1, hA1⟩, ⟨a2, n2, hv2, hl2, hA2⟩, hids⟩ := hw.book
  subst hv1 hv2
  have d0 := hw.box.cell 0
  have d1 := hw.box.cell 1
  have dz := hw.box.lt
  simp only [List.getElem?_cons_zero, List.getElem?_cons_succ] at d0 d1
  have HA1 := Lib.hid hA1
  clear hA1
  have HA2 := Lib.hid hA2
  clear hA2
  have HIDS := Lib.hid hids
  clear hids
  have h128 := HOK.out.ts128
  clear hw hok
  simp only [p72a, c72, Tryz.f36, Option.getD, codeL, codeR, fr72]
  go_wp2_with fail
  go_loopw [30] (fun i wr => ∃ (k : Nat) (v : Value), k ≤ b.ts.length ∧ i = .int .i64 k ∧ SetW w wr N (.slice a1 b.st.length n1) (.slice a2 b.ts.length n2) v b ((b.ts.take k).map tkAc)) (fun i _ => b.ts.length - (intOf i).toNat)
  case atStart => exact ⟨0, _, by omega, rfl, HW.out⟩
  case round =>
    clear HW d0 d1 dz
    obtain ⟨k, v, hk, rfl, hw⟩ := hrel
    by_cases hlt : k < b.ts.length
    · obtain ⟨bb, off, rfl, hbb, hcells⟩ := HA2.out (by omega)
      have hbe : Below w.heap.size w wr := by rw [← hw.hN]; exact hw.below
      obtain ⟨e0, e1, e2, e3, e4⟩ := ((hcells k hlt).below hbe hbb).c5
      clear hcells HA2 hbe
      obtain ⟨m1, m2, m3, m4, m5, m6, m7, m8⟩ := HOK.out.tk b.ts[k] (List.getElem_mem hlt)
      have HTK := Lib.hid (take_snoc b.ts k hlt)
      generalize b.ts[k] = t at *
      obtain ⟨tid, fr, to, lo, hi⟩ := t
      dsimp only at *
      have d0 := hw.box.cell 0
      have d1 := hw.box.cell 1
      have dz := hw.box.lt
      have c0 := hw.net.toA.c0
      have zn := hw.net.box.lt
      have fn := hw.net.box.frozen
      simp only [List.getElem?_cons_zero, List.getElem?_cons_succ] at d0 d1
      go_wp2_with fail
      have hwA := hw.later ((Below.refl _ _).alloc (Nat.le_refl _) (.cells #[.string tid, .int .i64 fr, .int .i64 to, .int .i64 lo, .int .i64 hi] 42))
      have hbt := Box.new wr #[.string tid, .int .i64 fr, .int .i64 to, .int .i64 lo, .int .i64 hi] 42
      have hown := hw.net.own.alloc (.cells #[.string tid, .int .i64 fr, .int .i64 to, .int .i64 lo, .int .i64 hi] 42)
      have hnet := hw.net.alloc (.cells #[.string tid, .int .i64 fr, .int .i64 to, .int .i64 lo, .int .i64 hi] 42)
      have hbox := hw.box.alloc (.cells #[.string tid, .int .i64 fr, .int .i64 to, .int .i64 lo, .int .i64 hi] 42)
      have hbel := hw.below.alloc (by omega) (.cells #[.string tid, .int .i64 fr, .int .i64 to, .int .i64 lo, .int .i64 hi] 42)
      have hsz : wr.heap.size < (wr.alloc (.cells #[.string tid, .int .i64 fr, .int .i64 to, .int .i64 lo, .int .i64 hi] 42)).heap.size := by simp
      have c0' := hnet.toA.c0
      have f0' := hnet.box.frozen
      have n1' := hw.ne
      have n2' := hw.net.ne
      have n3' : v.ownBlock ≠ some wr.heap.size := fun e => by have := (World.ownsRow.lt hw.net.own _ e).2; omega
      generalize wr.alloc (.cells #[.string tid, .int .i64 fr, .int .i64 to, .int .i64 lo, .int .i64 hi] 42) = W0 at *
      have t0 := hbt.cell 0
      have t1 := hbt.cell 1
      have t2 := hbt.cell 2
      have t3 := hbt.cell 3
      have t4 := hbt.cell 4
      simp only [List.getElem?_cons_zero, List.getElem?_cons_succ] at t0 t1 t2 t3 t4
      have HTK2 := Lib.hid hw
      have f0'' := f0' 0
      clear hw c0 d0 d1 fn e0 e1 e2 e3 e4 f0'
      generalize wr.heap.size = Bt at *
      have HNET := Lib.hid hnet
      have HWA := Lib.hid hwA
      clear hwA
      have HT := Lib.hid Tryz.underlying93
      have HI := Lib.hid Tryz.info106
      have hlk : ((b.ts.take k).map tkAc).length ≤ 1000000 := by have := List.length_take_le k b.ts; simp; omega
      have HLK := Lib.hid hlk
      have HCS := Lib.hid (show (#[Value.int .i64 lo, .int .i64 hi, .int .i64 (fr + 1), .int .i64 (to + 1), .int .i64 lo] : Array Value).toList = Ac.encW (tkAc ⟨tid, fr, to, ⟨lo, hi⟩⟩) by
        simp only [Ac.encW, tkAc]
        rw [Int.toNat_of_nonneg (by omega), Int.toNat_of_nonneg (by omega)])
      have HBOX := Lib.hid hbox
      have HBEL := Lib.hid hbel
      have zN1 : N + 1 < W0.heap.size := by omega
      clear hown hlk hnet hbox hbel
      refine wp_region_noPanic ?_
      refine wp_region_flow1 18 17 _ 1 92 _ _ _ (by decide) (by kernel_rfl) (by kernel_rfl) (by kernel_rfl) rfl rfl rfl rfl rfl (fun _ _ _ h => h.elim) ?_
      apply Exists.intro
      refine ⟨fun Y => ?_, ?_⟩
      simp only [headsOf, List.take_succ_cons, List.drop_succ_cons, List.take_zero, List.drop_zero, Nat.reduceSub, List.cons_append, List.nil_append]
      repeat go_big_quiet_step (fail)
      exact wpQuiet_nil rfl
      apply Exists.intro
      refine ⟨fun w => ?_, fun g w2 hb2 hg2 hc2 => ?_⟩
      go_simp
      first | rfl | (go_ints; rfl)
      have HH := Lib.hid hb2
      have hnet2 := HNET.out.later hb2
      have q0 := hnet2.toA.c0
      have q1 := hnet2.box.frozen 0
      have q2 := hnet2.box.lt
      simp only [Act.put, List.setIfInBounds_toArray, List.set_cons_succ, List.set_cons_zero, List.drop_succ_cons, List.drop_zero]
      have hbase : N ≤ w2.heap.size := by omega
      have HBASE := Lib.hid hbase
      go_wp2_with (at_builtin; refine wpList_pushB Ac.encW 5 40 93 92 _ HT.out HI.out rfl (by decide) (by decide) Ac.encW_len Ac.encW_one _ (tkAc ⟨tid, fr, to, ⟨lo, hi⟩⟩) N w2 g _ _ hc2 HCS.out _ hnet2.own HBASE.out HLK.out rfl _ _ rfl rfl rfl ?_; intro v' w' hown' hg'; obtain ⟨a', cap', rfl⟩ := hown'.shape; have HOW := Lib.hid hown'; have HGR := Lib.hid hg'; have hbn := hnet2.box.grown hg' (Ne.symm n2'); have r0 := hbn.cell 0; have r1 := hbn.frozen 0; have r2 := hbn.lt; simp only [netCells, List.getElem?_cons_zero] at r0; clear hown' hg')
      refine NoPanic.normal ?_
      go_wp2_with fail
      go_roundw
      case rel =>
        refine ⟨k + 1, .slice a' (k + 1) cap', by omega, by go_num, ?_⟩
        rw [HTK.out, List.map_append]
        have hp := HWA.out.pushed HH.out HGR.out HOW.out
        rw [show ((b.ts.take k).map tkAc ++ [tkAc ⟨tid, fr, to, ⟨lo, hi⟩⟩]).length = k + 1 by simp; omega] at hp
        exact hp
      case measure => simp [intOf]; omega
    · obtain rfl : b.ts.length = k := by omega
      go_wp2_with fail
      rw [← HQ.out]
      refine ⟨rfl, ?_, v, by rw [List.take_length] at hw; exact hw⟩
      apply fr72_act <;> rfl
end Go.Proofs.YtflchbejjofppaaGreatDoor
/- Walks: settle's second loop. -/
namespace Go.Proofs.YtflchbejjofppaaGreatDoor
open Go Go.Proofs Go.RowKit
set_option maxRecDepth 100000 in
set_option maxHeartbeats 1000000 in
theorem p72b_walk (w W : World) (N : Nat) (v1 v2 v0 : Value) (b : Bk) (hok : OkBk b) (s9 s10 s11 s14 s15 : Value) (z : Nat → Value) (hw : SetW w W N v1 v2 v0 b (b.ts.map tkAc)) :
    p72b.wp Tryz.prog (fun (e : Exit) (a : Act) (W' : World) => e = .normal ∧ (∃ z', a = { tmps := (fr72 N s9 s10 s11 s14 s15 z').toArray, defers := [] }) ∧ ∃ v, SetW w W' N v1 v2 v b (arcsOf b)) { tmps := (fr72 N s9 s10 s11 s14 s15 z).toArray, defers := [] } W := by
  obtain ⟨Q, hQ⟩ : ∃ Q : Exit → Act → World → Prop, (fun (e : Exit) (a : Act) (W' : World) => e = Exit.normal ∧ (∃ z', a = ({ tmps := (fr72 N s9 s10 s11 s14 s15 z').toArray, defers := [] } : Act)) ∧ ∃ v, SetW w W' N v1 v2 v b (arcsOf b)) = Q := ⟨_, rfl⟩
  rw [hQ]
  have HQ := Lib.hid hQ
  clear hQ
  have HOK := Lib.hid hok
  have HW := Lib.hid hw
  obtain ⟨⟨a1, n1, hv1, hl1, hA1⟩, ⟨a2, n2, hv2, hl2, hA2⟩, hids⟩ := hw.book
  subst hv1 hv2
  have d0 := hw.box.cell 0
  have d1 := hw.box.cell 1
  have dz := hw.box.lt
  simp only [List.getElem?_cons_zero, List.getElem?_cons_succ] at d0 d1
  have HA1 := Lib.hid hA1
  clear hA1
  clear hA2 hids
  have h32 := HOK.out.st32
  have h128 := HOK.out.ts128
  clear hw hok
  simp only [p72b, c72, Tryz.f36, Option.getD, codeL, codeR, fr72]
  go_wp2_with fail
  go_loopw [59] (fun i wr => ∃ (k : Nat) (v : Value), k ≤ b.st.length ∧ i = .int .i64 k ∧ SetW w wr N (.slice a1 b.st.length n1) (.slice a2 b.ts.length n2) v b (b.ts.map tkAc ++ stTo b.st k)) (fun i _ => b.st.length - (intOf i).toNat)
  case atStart => exact ⟨0, _, by omega, rfl, by have h := HW.out; simp only [stTo, List.range_zero, List.map_nil, List.append_nil]; exact h⟩
  case round =>
    clear HW d0 d1 dz
    obtain ⟨k, v, hk, rfl, hw⟩ := hrel
    by_cases hlt : k < b.st.length
    · obtain ⟨bb, off, rfl, hbb, hcells⟩ := HA1.out (by omega)
      have hbe : Below w.heap.size w wr := by rw [← hw.hN]; exact hw.below
      obtain ⟨e0, e1⟩ := ((hcells k hlt).below hbe hbb).c2
      clear hcells HA1 hbe
      obtain ⟨m6, m7, m8⟩ := HOK.out.st b.st[k] (List.getElem_mem hlt)
      have HST := Lib.hid (stTo_succ b.st k hlt)
      generalize b.st[k] = r at *
      obtain ⟨lo, hi⟩ := r
      dsimp only at *
      have d0 := hw.box.cell 0
      have d1 := hw.box.cell 1
      have dz := hw.box.lt
      have zn := hw.net.box.lt
      simp only [List.getElem?_cons_zero, List.getElem?_cons_succ] at d0 d1
      go_wp2_with fail
      have hwA := hw.later ((Below.refl _ _).alloc (Nat.le_refl _) (.cells #[.int .i64 lo, .int .i64 hi] 34))
      have hbt := Box.new wr #[.int .i64 lo, .int .i64 hi] 34
      have hnet := hwA.net
      have hbel := hwA.below
      have hsz : wr.heap.size < (wr.alloc (.cells #[.int .i64 lo, .int .i64 hi] 34)).heap.size := by simp
      have c0' := hnet.toA.c0
      have n2' := hw.net.ne
      generalize wr.alloc (.cells #[.int .i64 lo, .int .i64 hi] 34) = W0 at *
      have t0 := hbt.cell 0
      have t1 := hbt.cell 1
      simp only [List.getElem?_cons_zero, List.getElem?_cons_succ] at t0 t1
      clear hw d0 d1 e0 e1
      generalize wr.heap.size = Bt at *
      have HNET := Lib.hid hnet
      have HWA := Lib.hid hwA
      have HT := Lib.hid Tryz.underlying93
      have HI := Lib.hid Tryz.info106
      have hlk : (b.ts.map tkAc ++ stTo b.st k).length ≤ 1000000 := by simp [stTo]; omega
      have HLK := Lib.hid hlk
      have HCS := Lib.hid (show (#[Value.int .i64 lo, .int .i64 hi, .int .i64 ((k : Int) + 1), .int .i64 0, .int .i64 lo] : Array Value).toList = Ac.encW (stAc k ⟨lo, hi⟩) from rfl)
      have zN1 : N + 1 < W0.heap.size := by omega
      clear hlk hnet hbel hwA
      refine wp_region_noPanic ?_
      refine wp_region_flow1 12 11 _ 1 92 _ _ _ (by decide) (by kernel_rfl) (by kernel_rfl) (by kernel_rfl) rfl rfl rfl rfl rfl (fun _ _ _ h => h.elim) ?_
      apply Exists.intro
      refine ⟨fun Y => ?_, ?_⟩
      simp only [headsOf, List.take_succ_cons, List.drop_succ_cons, List.take_zero, List.drop_zero, Nat.reduceSub, List.cons_append, List.nil_append]
      repeat go_big_quiet_step (fail)
      exact wpQuiet_nil rfl
      apply Exists.intro
      refine ⟨fun w => ?_, fun g w2 hb2 hg2 hc2 => ?_⟩
      go_simp
      first | rfl | (go_ints; rfl)
      have HH := Lib.hid hb2
      have hnet2 := HNET.out.later hb2
      have q0 := hnet2.toA.c0
      have q1 := hnet2.box.frozen 0
      have q2 := hnet2.box.lt
      simp only [Act.put, List.setIfInBounds_toArray, List.set_cons_succ, List.set_cons_zero, List.drop_succ_cons, List.drop_zero]
      have hbase : N ≤ w2.heap.size := by omega
      have HBASE := Lib.hid hbase
      go_wp2_with (at_builtin; refine wpList_pushB Ac.encW 5 40 93 92 _ HT.out HI.out rfl (by decide) (by decide) Ac.encW_len Ac.encW_one _ (stAc k ⟨lo, hi⟩) N w2 g _ _ hc2 HCS.out _ hnet2.own HBASE.out HLK.out rfl _ _ rfl rfl rfl ?_; intro v' w' hown' hg'; obtain ⟨a', cap', rfl⟩ := hown'.shape; have HOW := Lib.hid hown'; have HGR := Lib.hid hg'; have hbn := hnet2.box.grown hg' (Ne.symm n2'); have r0 := hbn.cell 0; have r1 := hbn.frozen 0; have r2 := hbn.lt; simp only [netCells, List.getElem?_cons_zero] at r0; clear hown' hg')
      refine NoPanic.normal ?_
      go_wp2_with fail
      go_roundw
      case rel =>
        refine ⟨k + 1, .slice a' (b.ts.length + ((stTo b.st k).length + 1)) cap', by omega, by go_num, ?_⟩
        rw [HST.out, ← List.append_assoc]
        have hp := HWA.out.pushed HH.out HGR.out HOW.out
        rw [show ((b.ts.map tkAc ++ stTo b.st k) ++ [stAc k ⟨lo, hi⟩]).length = b.ts.length + ((stTo b.st k).length + 1) by simp] at hp
        exact hp
      case measure => simp [intOf]; omega
    · obtain rfl : b.st.length = k := by omega
      go_wp2_with fail
      rw [← HQ.out]
      refine ⟨rfl, ?_, v, hw⟩
      apply fr72_act <;> rfl
end Go.Proofs.YtflchbejjofppaaGreatDoor
/- Walks: settle: what comes to each node by the least flows. -/
namespace Go.Proofs.YtflchbejjofppaaGreatDoor
open Go Go.Proofs Go.RowKit
def excV (l : List Ac) : List Value := (List.range 36).map fun v => .int .i64 (exc v l)
theorem excV_len (l : List Ac) : (excV l).length = 36 := by simp [excV]
theorem excV_get (l : List Ac) (v : Nat) (h : v < 36) : (excV l)[v]? = some (.int .i64 (exc v l)) := by simp [excV, h]
theorem exc_snoc (v : Nat) (l : List Ac) (a : Ac) : exc v (l ++ [a]) = exc v l + (if a.to = v then a.fl else 0) - (if a.fr = v then a.fl else 0) := by
  rw [exc_append]; unfold exc; simp only [tot, Ac.at]; omega
theorem excV_step (l : List Ac) (a : Ac) (h1 : a.fr < 36) (h2 : a.to < 36) (hne : a.fr ≠ a.to) :
    ((excV l).set a.to (.int .i64 (exc a.to l + a.fl))).set a.fr (.int .i64 (exc a.fr l - a.fl)) = excV (l ++ [a]) := by
  apply List.ext_getElem?
  intro v
  by_cases hv : v < 36
  · rw [excV_get _ v hv, exc_snoc]
    simp only [List.getElem?_set, List.length_set, excV_len]
    by_cases e1 : a.fr = v
    · subst e1; rw [if_pos rfl, if_pos h1, if_neg (Ne.symm hne), if_pos rfl]; simp
    · rw [if_neg e1]
      by_cases e2 : a.to = v
      · subst e2; rw [if_pos rfl, if_pos h2, if_pos rfl, if_neg e1]; simp
      · rw [if_neg e2, excV_get _ v hv, if_neg e2, if_neg e1]; simp
  · rw [List.getElem?_eq_none (by simp [excV_len]; omega), List.getElem?_eq_none (by rw [excV_len]; omega)]
theorem SetW.other {w W : World} {N X : Nat} {v1 v2 v : Value} {b : Bk} {l : List Ac} (h : SetW w W N v1 v2 v b l) {vs : List Value} (hx : Box W X 112 vs) (hX : N + 1 < X) (o : Nat) (u : Value) : SetW w (W.setCell ⟨X, o, none⟩ u) N v1 v2 v b l := by
  have hn := h.net.own.other_type hx (by decide)
  exact ⟨h.hN, h.book, h.box.other _ (by dsimp only; omega), ⟨h.net.box.other _ (by dsimp only; omega), h.net.own.other _ hn, h.net.ne, h.net.n36⟩, h.ne, h.below.setCell (by dsimp only; omega) _⟩
theorem SetW.drewN {w W : World} {N : Nat} {v1 v2 v : Value} {b : Bk} {l : List Ac} (h : SetW w W N v1 v2 v b l) (n : Nat) : SetW w (W.drewN n) N v1 v2 v b l := h.later (below_drewN (Below.refl _ _) n)
noncomputable def q72b : Code := codeR (codeR (codeR q72))
noncomputable def l72c : Code := codeL (codeR (codeR q72))
theorem arcs_props {b : Bk} (hok : OkBk b) {a : Ac} (h : a ∈ arcsOf b) : a.fr < b.st.length + 1 ∧ a.to < b.st.length + 1 ∧ a.fr ≠ a.to ∧ a.fl = a.lo ∧ -999999999 ≤ a.lo ∧ a.lo ≤ a.hi ∧ a.hi ≤ 999999999 := by
  rcases List.mem_append.1 h with h | h
  · obtain ⟨t, ht, rfl⟩ := List.mem_map.1 h
    have := hok.tk t ht
    simp only [tkAc]
    exact ⟨by omega, by omega, by omega, trivial, by omega, by omega, by omega⟩
  · obtain ⟨p, hp, rfl⟩ := List.mem_map.1 h
    have hp : p < b.st.length := by simpa using hp
    have := hok.st b.st[p] (List.getElem_mem hp)
    simp only [stAc, List.getD_eq_getElem?_getD, List.getElem?_eq_getElem hp, Option.getD_some]
    exact ⟨by omega, by omega, by omega, trivial, by omega, by omega, by omega⟩
theorem arcs_len (b : Bk) : (arcsOf b).length = b.ts.length + b.st.length := by simp [arcsOf, stTo]
set_option maxRecDepth 100000 in
set_option maxHeartbeats 1000000 in
theorem l72c_walk (w W : World) (N X : Nat) (v1 v2 v : Value) (b : Bk) (hok : OkBk b) (s9 s10 s14 s15 : Value) (z : Nat → Value) (hw : SetW w W N v1 v2 v b (arcsOf b)) (hx : Box W X 112 (excV [])) (hX : N + 1 < X) :
    l72c.wp Tryz.prog (fun (e : Exit) (a : Act) (W' : World) => e = .normal ∧ (∃ z', a = { tmps := (fr72 N s9 s10 (.pointer (some ⟨X, 0, none⟩)) s14 s15 z').toArray, defers := [] }) ∧ SetW w W' N v1 v2 v b (arcsOf b) ∧ Box W' X 112 (excV (arcsOf b)))
      { tmps := (fr72 N s9 s10 (.pointer (some ⟨X, 0, none⟩)) s14 s15 z).toArray, defers := [] } W := by
  obtain ⟨Q, hQ⟩ : ∃ Q : Exit → Act → World → Prop, (fun (e : Exit) (a : Act) (W' : World) => e = .normal ∧ (∃ z', a = ({ tmps := (fr72 N s9 s10 (.pointer (some ⟨X, 0, none⟩)) s14 s15 z').toArray, defers := [] } : Act)) ∧ SetW w W' N v1 v2 v b (arcsOf b) ∧ Box W' X 112 (excV (arcsOf b))) = Q := ⟨_, rfl⟩
  rw [hQ]
  have HQ := Lib.hid hQ
  clear hQ
  have HW := Lib.hid hw
  have HX := Lib.hid hx
  have hal := arcs_len b
  have h128 := hok.ts128
  have h32 := hok.st32
  have HP := Lib.hid (fun a (h : a ∈ arcsOf b) => arcs_props hok h)
  obtain ⟨ga, cap, hv⟩ := hw.net.own.shape
  have c0 := hw.net.toA.c0
  have zn := hw.net.box.lt
  rw [hv] at c0
  obtain ⟨l, hl⟩ : ∃ l, arcsOf b = l := ⟨_, rfl⟩
  rw [hl] at hal c0 HP HW hv HQ
  clear hl hok
  have hll : l.length ≤ 160 := by omega
  clear hal
  subst hv
  clear hw hx
  simp only [l72c, q72, c72, Tryz.f36, Option.getD, codeL, codeR, fr72]
  go_wp2_with fail
  go_loopw [95] (fun i wr => ∃ k : Nat, k ≤ l.length ∧ i = .int .i64 k ∧ SetW w wr N v1 v2 (.slice ga l.length cap) b l ∧ Box wr X 112 (excV (l.take k))) (fun i _ => l.length - (intOf i).toNat)
  case atStart => exact ⟨0, by omega, rfl, HW.out, by have h := HX.out; simpa using h⟩
  case round =>
    clear HW HX c0 zn
    obtain ⟨k, hk, rfl, hw, hx⟩ := hrel
    by_cases hlt : k < l.length
    · obtain ⟨g, cap', e1, hg, hgs⟩ := hw.net.own.form (by omega)
      cases e1
      obtain ⟨e0, e1, e2, e3, e4⟩ := (hw.net.own.at Ac.encW_len k hlt).c5
      obtain ⟨p1, p2, p3, p4, p5, p6, p7⟩ := HP.out l[k] (List.getElem_mem hlt)
      have HTK := Lib.hid (take_snoc l k hlt)
      have HST := Lib.hid (excV_step (l.take k) l[k] (by omega) (by omega) p3)
      have hb : ∀ v, -160000000000 ≤ exc v (l.take k) ∧ exc v (l.take k) ≤ 160000000000 := fun v => by
        have h := tot_bound (fun a => a.at v) 999999999 (l.take k) (fun a ha => by
          have := HP.out a (List.mem_of_mem_take ha)
          unfold Ac.at
          split <;> split <;> omega)
        have : ((l.take k).length : Int) ≤ 160 := by have := List.length_take_le k l; omega
        unfold exc
        omega
      generalize l[k] = a at *
      obtain ⟨fr, to, lo, hi, fl⟩ := a
      dsimp only at *
      subst p4
      obtain ⟨b1, b2⟩ := hb fr
      obtain ⟨b3, b4⟩ := hb to
      clear hb
      have x1 := hx.cell to
      have x2 := hx.cell fr
      rw [excV_get _ to (by omega)] at x1
      rw [excV_get _ fr (by omega)] at x2
      have fx := hx.frozen
      have zx := hx.lt
      go_wp2_with fail
      have hwA := hw.later ((Below.refl _ _).alloc (Nat.le_refl _) (.cells #[.int .i64 fl, .int .i64 hi, .int .i64 fr, .int .i64 to, .int .i64 fl] 92))
      have hxA := hx.alloc (.cells #[.int .i64 fl, .int .i64 hi, .int .i64 fr, .int .i64 to, .int .i64 fl] 92)
      have hbt := Box.new wr #[.int .i64 fl, .int .i64 hi, .int .i64 fr, .int .i64 to, .int .i64 fl] 92
      generalize wr.alloc (.cells #[.int .i64 fl, .int .i64 hi, .int .i64 fr, .int .i64 to, .int .i64 fl] 92) = W0 at *
      clear hw hx e0 e1 e2 e3 e4 x1 x2 fx
      generalize wr.heap.size = Bt at *
      have t0 := hbt.cell 0
      have t2 := hbt.cell 2
      have t3 := hbt.cell 3
      have x1 := hxA.cell to
      rw [excV_get _ to (by omega)] at x1
      have fx := hxA.frozen
      have zx2 := hxA.lt
      simp only [List.getElem?_cons_zero, List.getElem?_cons_succ] at t0 t2 t3
      refine wp_region_head_drew 9 (by kernel_rfl) (by kernel_rfl) ?_
      simp only [List.take_succ_cons, List.take_zero, List.drop_succ_cons, List.drop_zero]
      repeat go_big_quiet_step (fail)
      refine wpQuiet_nil ?_
      rintro _ ⟨nq, rfl⟩
      go_wp2_with fail
      have hxB := (hxA.later (below_drewN (Below.refl _ _) nq)).set to (.int .i64 (exc to (l.take k) + fl))
      have hwB := (hwA.drewN nq).other (hxA.later (below_drewN (Below.refl _ _) nq)) hX to (.int .i64 (exc to (l.take k) + fl))
      have hbB := (hbt.later (below_drewN (Below.refl _ _) nq)).other (a := ⟨X, to, none⟩) (.int .i64 (exc to (l.take k) + fl)) (fun e => by
        have h1 : W0.heap[Bt]? = _ := hbt
        have h2 : W0.heap[X]? = _ := hxA
        have e' : X = Bt := e
        rw [e', h1] at h2
        injection h2 with h3
        injection h3 with _ h4 _
        exact absurd h4 (by decide))
      generalize (W0.drewN nq).setCell ⟨X, to, none⟩ (.int .i64 (exc to (l.take k) + fl)) = W1 at *
      clear nq
      clear x1 fx zx2 t0 t2 t3 hwA hxA hbt
      have t0 := hbB.cell 0
      have t1 := hbB.cell 1
      have t2 := hbB.cell 2
      have x2 := hxB.cell fr
      rw [List.getElem?_set_ne (Ne.symm p3), excV_get _ fr (by omega)] at x2
      have fx := hxB.frozen
      have zx2 := hxB.lt
      simp only [List.getElem?_cons_zero, List.getElem?_cons_succ] at t0 t1 t2
      refine wp_region_head_drew 9 (by kernel_rfl) (by kernel_rfl) ?_
      simp only [List.take_succ_cons, List.take_zero, List.drop_succ_cons, List.drop_zero]
      repeat go_big_quiet_step (fail)
      refine wpQuiet_nil ?_
      rintro _ ⟨nq, rfl⟩
      go_wp2_with fail
      go_roundw
      case rel =>
        refine ⟨k + 1, by omega, by go_num, (hwB.drewN nq).other (hxB.later (below_drewN (Below.refl _ _) nq)) hX fr _, ?_⟩
        rw [HTK.out, ← HST.out]
        exact (hxB.later (below_drewN (Below.refl _ _) nq)).set fr _
      case measure => simp [intOf]; omega
    · obtain rfl : l.length = k := by omega
      rw [List.take_length] at hx
      go_wp2_with fail
      rw [← HQ.out]
      refine ⟨rfl, ?_, hw, hx⟩
      apply fr72_act <;> rfl
end Go.Proofs.YtflchbejjofppaaGreatDoor
/- Walks: settle: the arcs from the source and to the sink. -/
namespace Go.Proofs.YtflchbejjofppaaGreatDoor
open Go Go.Proofs Go.RowKit
noncomputable def p72d : Code := codeL (codeR (codeR q72b))
theorem run_index_exc (l : List Ac) (k : Nat) (hk : k < 36) (w : World) : (Instr.index 112 (.agg (excV l).toArray) (.int .i64 k)).run Tryz.prog w = .ok (.int .i64 (exc k l)) w := by
  have h1 : Tryz.prog.underlying 112 = some (.array 36 3) := Tryz.underlying112
  have h2 := excV_get l k hk
  obtain ⟨i, hi, _, hz, _⟩ := info_parts (show (Tryz.prog.info? 3).map (fun i => (i.zero, i.size, i.bytes)) = some (some (.int .i64 0), 1, 8) by kernel_rfl)
  have h4 : Tryz.prog.underlying 3 = some (.int .i64) := Tryz.underlying3
  simp [Instr.index, run_underlying h1, asIntOf, sizeOf, typeInfo, hi, hz, part, Sem.run_bind, h2]
  intro h; omega
theorem wantOf_bd (E : Nat → Int) (c : Int) (h : ∀ v, -c ≤ E v ∧ E v ≤ c) (k : Nat) : 0 ≤ wantOf E k ∧ wantOf E k ≤ k * c := by
  induction k with
  | zero => simp [wantOf, sumN]
  | succ k ih =>
    have h1 := h k
    unfold wantOf at *
    simp only [sumN, Int.natCast_add, Int.add_mul]
    split <;> omega
theorem extras_len (E : Nat → Int) (S T k : Nat) : (extras E S T k).length ≤ k := by
  induction k with
  | zero => simp [extras]
  | succ k ih =>
    rw [extras_succ, List.length_append]
    have : (extA E S T k).length ≤ 1 := by unfold extA; split <;> (try split) <;> simp
    omega
set_option maxRecDepth 100000 in
set_option maxHeartbeats 1000000 in
theorem p72d_walk (w W : World) (N X : Nat) (v1 v2 v0 : Value) (b : Bk) (hok : OkBk b) (s14 : Value) (z : Nat → Value) (hw : SetW w W N v1 v2 v0 b (arcsOf b)) (hx : Box W X 112 (excV (arcsOf b))) (hX : N + 1 < X) :
    p72d.wp Tryz.prog (fun (e : Exit) (a : Act) (W' : World) => e = .normal ∧ (∃ z', a = { tmps := (fr72 N (.int .i64 (b.st.length + 2 : Nat)) (.int .i64 (b.st.length + 3 : Nat)) (.pointer (some ⟨X, 0, none⟩)) s14 (.int .i64 (wantOf (fun v => exc v (arcsOf b)) 36)) z').toArray, defers := [] }) ∧
        ∃ v, SetW w W' N v1 v2 v b (arcsOf b ++ extras (fun v => exc v (arcsOf b)) (b.st.length + 2) (b.st.length + 3) 36))
      { tmps := (fr72 N (.int .i64 (b.st.length + 2 : Nat)) (.int .i64 (b.st.length + 3 : Nat)) (.pointer (some ⟨X, 0, none⟩)) s14 (.int .i64 0) z).toArray, defers := [] } W := by
  obtain ⟨Q, hQ⟩ : ∃ Q : Exit → Act → World → Prop, (fun (e : Exit) (a : Act) (W' : World) => e = .normal ∧ (∃ z', a = ({ tmps := (fr72 N (.int .i64 (b.st.length + 2 : Nat)) (.int .i64 (b.st.length + 3 : Nat)) (.pointer (some ⟨X, 0, none⟩)) s14 (.int .i64 (wantOf (fun v => exc v (arcsOf b)) 36)) z').toArray, defers := [] } : Act)) ∧
        ∃ v, SetW w W' N v1 v2 v b (arcsOf b ++ extras (fun v => exc v (arcsOf b)) (b.st.length + 2) (b.st.length + 3) 36)) = Q := ⟨_, rfl⟩
  rw [hQ]
  have HQ := Lib.hid hQ
  clear hQ
  have HW := Lib.hid hw
  have HX := Lib.hid hx
  have hal := arcs_len b
  have h128 := hok.ts128
  have h32 := hok.st32
  have hb : ∀ v, -160000000000 ≤ exc v (arcsOf b) ∧ exc v (arcsOf b) ≤ 160000000000 := fun v => by
    have h := tot_bound (fun a => a.at v) 999999999 (arcsOf b) (fun a ha => by
      have := arcs_props hok ha
      unfold Ac.at
      split <;> split <;> omega)
    have : ((arcsOf b).length : Int) ≤ 160 := by omega
    unfold exc
    omega
  have HB := Lib.hid hb
  have hix := fun k hk => run_index_exc (arcsOf b) k hk
  have HIX := Lib.hid hix
  clear hb hix
  obtain ⟨S, hS⟩ : ∃ S, b.st.length + 2 = S := ⟨_, rfl⟩
  obtain ⟨T, hT⟩ : ∃ T, b.st.length + 3 = T := ⟨_, rfl⟩
  rw [hS, hT] at HQ ⊢
  obtain ⟨l, hl⟩ : ∃ l, arcsOf b = l := ⟨_, rfl⟩
  rw [hl] at hal HB HIX HQ HW HX
  have hll : l.length ≤ 160 := by omega
  have zx := hx.lt
  have HHX := Lib.hid (show W.heap[X]? = some (.cells (excV l).toArray 112 (0, 0)) from hl ▸ hx)
  have HI := Lib.hid (show (Tryz.prog.info? 112).map (·.size) = some (excV l).toArray.size by rw [List.size_toArray, excV_len]; kernel_rfl)
  have HU := Lib.hid Tryz.underlying112
  clear hw hx hok hl hal hS hT
  simp only [p72d, q72b, q72, c72, Tryz.f36, Option.getD, codeL, codeR, fr72]
  apply wp_seq_k; intro K0 hK0
  apply wp_region_lit
  refine wpList_load_row (by rfl) 112 (.tmp 11) (by rfl) X (by rfl) 112 _ _ _ HHX.out HU.out (by rfl) HI.out ?_
  simp only [Act.put, List.setIfInBounds_toArray, List.set_cons_succ, List.set_cons_zero]
  go_wp2_with fail
  go_loopw [15, 124] (fun wt i wr => ∃ (k : Nat) (v : Value), k ≤ 36 ∧ wt = .int .i64 (wantOf (fun v => exc v l) k) ∧ i = .int .i64 k ∧ SetW w wr N v1 v2 v b (l ++ extras (fun v => exc v l) S T k)) (fun _ i _ => 36 - (intOf i).toNat)
  case atStart => exact ⟨0, _, by omega, rfl, rfl, by have h := HW.out; simp only [extras, List.range_zero, List.flatMap_nil, List.append_nil]; exact h⟩
  case round =>
    clear HW HX zx
    obtain ⟨k, v, hk, rfl, rfl, hw⟩ := hrel
    by_cases hlt : k < 36
    · obtain ⟨m1, m2⟩ := HB.out k
      obtain ⟨t1, t2⟩ := wantOf_bd (fun v => exc v l) 160000000000 HB.out k
      have hix := HIX.out k hlt
      have HWS := Lib.hid (show wantOf (fun v => exc v l) (k + 1) = wantOf (fun v => exc v l) k + if 0 < exc k l then exc k l else 0 from rfl)
      have HES := Lib.hid (extras_succ (fun v => exc v l) S T k)
      have HEA := Lib.hid (show extA (fun v => exc v l) S T k = if 0 < exc k l then [⟨S, k, 0, exc k l, 0⟩] else if exc k l < 0 then [⟨k, T, 0, -exc k l, 0⟩] else [] from rfl)
      have hel := extras_len (fun v => exc v l) S T k
      obtain ⟨wt, hwt⟩ : ∃ wt, wantOf (fun v => exc v l) k = wt := ⟨_, rfl⟩
      rw [hwt] at t1 t2 HWS ⊢
      generalize exc k l = m at *
      have dz := hw.box.lt
      have zn := hw.net.box.lt
      have c0 := hw.net.toA.c0
      have fn := hw.net.box.frozen 0
      have n2' := hw.net.ne
      have HWA := Lib.hid hw
      have HT := Lib.hid Tryz.underlying93
      have HI2 := Lib.hid Tryz.info106
      have hlk : (l ++ extras (fun v => exc v l) S T k).length ≤ 1000000 := by simp; omega
      have HLK := Lib.hid hlk
      have hbase : N ≤ wr.heap.size := by omega
      have HBASE := Lib.hid hbase
      clear hw hlk hwt
      by_cases h1 : 0 < m
      · go_wp2_with (at_builtin; refine wpList_push Ac.encW 5 40 93 92 _ HT.out HI2.out rfl (by decide) (by decide) Ac.encW_len Ac.encW_one _ ⟨S, k, 0, m, 0⟩ N wr _ rfl v HWA.out.net.own HBASE.out HLK.out rfl _ _ rfl rfl rfl ?_; intro v' w' hown' hg'; obtain ⟨a', cap', rfl⟩ := hown'.shape; have HOW := Lib.hid hown'; have HGR := Lib.hid hg'; have hbn := HWA.out.net.box.grown hg' (Ne.symm n2'); have r0 := hbn.cell 0; have r1 := hbn.frozen 0; have r2 := hbn.lt; simp only [netCells, List.getElem?_cons_zero] at r0; clear hown' hg')
        go_roundw
        case rel =>
          have hp := HWA.out.pushed (Below.refl _ _) HGR.out HOW.out
          rw [show (l ++ extras (fun v => exc v l) S T k ++ [⟨S, k, 0, m, 0⟩] : List Ac).length = l.length + ((extras (fun v => exc v l) S T k).length + 1) by simp, List.append_assoc] at hp
          refine ⟨k + 1, .slice a' (l.length + ((extras (fun v => exc v l) S T k).length + 1)) cap', by omega, by rw [HWS.out, if_pos h1], by go_num, ?_⟩
          rw [HES.out, HEA.out, if_pos h1]
          exact hp
        case measure => simp [intOf]; omega
      by_cases h2 : m < 0
      · go_wp2_with (at_builtin; refine wpList_push Ac.encW 5 40 93 92 _ HT.out HI2.out rfl (by decide) (by decide) Ac.encW_len Ac.encW_one _ ⟨k, T, 0, -m, 0⟩ N wr _ rfl v HWA.out.net.own HBASE.out HLK.out rfl _ _ rfl rfl rfl ?_; intro v' w' hown' hg'; obtain ⟨a', cap', rfl⟩ := hown'.shape; have HOW := Lib.hid hown'; have HGR := Lib.hid hg'; have hbn := HWA.out.net.box.grown hg' (Ne.symm n2'); have r0 := hbn.cell 0; have r1 := hbn.frozen 0; have r2 := hbn.lt; simp only [netCells, List.getElem?_cons_zero] at r0; clear hown' hg')
        go_roundw
        case rel =>
          have hp := HWA.out.pushed (Below.refl _ _) HGR.out HOW.out
          rw [show (l ++ extras (fun v => exc v l) S T k ++ [⟨k, T, 0, -m, 0⟩] : List Ac).length = l.length + ((extras (fun v => exc v l) S T k).length + 1) by simp, List.append_assoc] at hp
          refine ⟨k + 1, .slice a' (l.length + ((extras (fun v => exc v l) S T k).length + 1)) cap', by omega, by rw [HWS.out, if_neg h1, Int.add_zero], by go_num, ?_⟩
          rw [HES.out, HEA.out, if_neg h1, if_pos h2]
          exact hp
        case measure => simp [intOf]; omega
      · go_wp2_with fail
        go_roundw
        case rel =>
          refine ⟨k + 1, v, by omega, by rw [HWS.out, if_neg h1, Int.add_zero], by go_num, ?_⟩
          rw [HES.out, HEA.out, if_neg h1, if_neg h2, List.append_nil]
          exact HWA.out
        case measure => simp [intOf]; omega
    · obtain rfl : k = 36 := by omega
      go_wp2_with fail
      rw [← HQ.out]
      refine ⟨rfl, ?_, v, hw⟩
      apply fr72_act <;> rfl
end Go.Proofs.YtflchbejjofppaaGreatDoor
