/- Lemmas on the way to the law TopChanges (part 10): WNt WNu WNv WNw WNx -/
import Derived.Test.YtflchbejjofppaaGreatDoorTopChangesP09
import Derived.RegionTactic
import Derived.BigRegion
set_option linter.unusedVariables false
set_option linter.unusedSimpArgs false

/- Walks: settle: what comes to each node by the least flows. -/
namespace Go.Proofs.YtflchbejjofppaaGreatDoor
open Go Go.Proofs Go.RowKit
def excV (l : List Ac) : List Value := (List.range 36).map fun v => .int .i64 (exc v l)
theorem excV_len (l : List Ac) : (excV l).length = 36 := by simp [excV]
theorem excV_get (l : List Ac) (v : Nat) (h : v < 36) : (excV l)[v]? = some (.int .i64 (exc v l)) := by simp [excV, h]
theorem exc_snoc (v : Nat) (l : List Ac) (a : Ac) : exc v (l ++ [a]) = exc v l + (if a.to = v then a.fl else 0) - (if a.fr = v then a.fl else 0) := by
  rw [exc_append]; unfold exc; simp only [tot, Ac.at]; omega
theorem excV_step (l : List Ac) (a : Ac) (h1 : a.fr < 36) (h2 : a.to < 36) (hne : a.fr ≠ a.to) :
    ((excV l).set a.to (.int .i64 (exc a.to l + a.fl))).set a.fr (.int .i64 (exc a.fr l - a.fl)) = excV (l ++ [a]) := by
  apply List.ext_getElem?
  intro v
  by_cases hv : v < 36
  · rw [excV_get _ v hv, exc_snoc]
    simp only [List.getElem?_set, List.length_set, excV_len]
    by_cases e1 : a.fr = v
    · subst e1; rw [if_pos rfl, if_pos h1, if_neg (Ne.symm hne), if_pos rfl]; simp
    · rw [if_neg e1]
      by_cases e2 : a.to = v
      · subst e2; rw [if_pos rfl, if_pos h2, if_pos rfl, if_neg e1]; simp
      · rw [if_neg e2, excV_get _ v hv, if_neg e2, if_neg e1]; simp
  · rw [List.getElem?_eq_none (by simp [excV_len]; omega), List.getElem?_eq_none (by rw [excV_len]; omega)]
theorem SetW.other {w W : World} {N X : Nat} {v1 v2 v : Value} {b : Bk} {l : List Ac} (h : SetW w W N v1 v2 v b l) {vs : List Value} (hx : Box W X 112 vs) (hX : N + 1 < X) (o : Nat) (u : Value) : SetW w (W.setCell ⟨X, o, none⟩ u) N v1 v2 v b l := by
  have hn := h.net.own.other_type hx (by decide)
  exact ⟨h.hN, h.book, h.box.other _ (by dsimp only; omega), ⟨h.net.box.other _ (by dsimp only; omega), h.net.own.other _ hn, h.net.ne, h.net.n36⟩, h.ne, h.below.setCell (by dsimp only; omega) _⟩
theorem SetW.drewN {w W : World} {N : Nat} {v1 v2 v : Value} {b : Bk} {l : List Ac} (h : SetW w W N v1 v2 v b l) (n : Nat) : SetW w (W.drewN n) N v1 v2 v b l := h.later (below_drewN (Below.refl _ _) n)
noncomputable def q72b : Code := codeR (codeR (codeR q72))
noncomputable def l72c : Code := codeL (codeR (codeR q72))
theorem arcs_props {b : Bk} (hok : OkBk b) {a : Ac} (h : a ∈ arcsOf b) : a.fr < b.st.length + 1 ∧ a.to < b.st.length + 1 ∧ a.fr ≠ a.to ∧ a.fl = a.lo ∧ -999999999 ≤ a.lo ∧ a.lo ≤ a.hi ∧ a.hi ≤ 999999999 := by
  rcases List.mem_append.1 h with h | h
  · obtain ⟨t, ht, rfl⟩ := List.mem_map.1 h
    have := hok.tk t ht
    simp only [tkAc]
    exact ⟨by omega, by omega, by omega, trivial, by omega, by omega, by omega⟩
  · obtain ⟨p, hp, rfl⟩ := List.mem_map.1 h
    have hp : p < b.st.length := by simpa using hp
    have := hok.st b.st[p] (List.getElem_mem hp)
    simp only [stAc, List.getD_eq_getElem?_getD, List.getElem?_eq_getElem hp, Option.getD_some]
    exact ⟨by omega, by omega, by omega, trivial, by omega, by omega, by omega⟩
theorem arcs_len (b : Bk) : (arcsOf b).length = b.ts.length + b.st.length := by simp [arcsOf, stTo]
set_option maxRecDepth 100000 in
set_option maxHeartbeats 1000000 in
theorem l72c_walk (w W : World) (N X : Nat) (v1 v2 v : Value) (b : Bk) (hok : OkBk b) (s9 s10 s14 s15 : Value) (z : Nat → Value) (hw : SetW w W N v1 v2 v b (arcsOf b)) (hx : Box W X 112 (excV [])) (hX : N + 1 < X) :
    l72c.wp Tryz.prog (fun (e : Exit) (a : Act) (W' : World) => e = .normal ∧ (∃ z', a = { tmps := (fr72 N s9 s10 (.pointer (some ⟨X, 0, none⟩)) s14 s15 z').toArray, defers := [] }) ∧ SetW w W' N v1 v2 v b (arcsOf b) ∧ Box W' X 112 (excV (arcsOf b)))
      { tmps := (fr72 N s9 s10 (.pointer (some ⟨X, 0, none⟩)) s14 s15 z).toArray, defers := [] } W := by
  obtain ⟨Q, hQ⟩ : ∃ Q : Exit → Act → World → Prop, (fun (e : Exit) (a : Act) (W' : World) => e = .normal ∧ (∃ z', a = ({ tmps := (fr72 N s9 s10 (.pointer (some ⟨X, 0, none⟩)) s14 s15 z').toArray, defers := [] } : Act)) ∧ SetW w W' N v1 v2 v b (arcsOf b) ∧ Box W' X 112 (excV (arcsOf b))) = Q := ⟨_, rfl⟩
  rw [hQ]
  have HQ := Lib.hid hQ
  clear hQ
  have HW := Lib.hid hw
  have HX := Lib.hid hx
  have hal := arcs_len b
  have h128 := hok.ts128
  have h32 := hok.st32
  have HP := Lib.hid (fun a (h : a ∈ arcsOf b) => arcs_props hok h)
  obtain ⟨ga, cap, hv⟩ := hw.net.own.shape
  have c0 := hw.net.toA.c0
  have zn := hw.net.box.lt
  rw [hv] at c0
  obtain ⟨l, hl⟩ : ∃ l, arcsOf b = l := ⟨_, rfl⟩
  rw [hl] at hal c0 HP HW hv HQ
  clear hl hok
  have hll : l.length ≤ 160 := by omega
  clear hal
  subst hv
  clear hw hx
  simp only [l72c, q72, c72, Tryz.f36, Option.getD, codeL, codeR, fr72]
  go_wp2_with fail
  go_loopw [95] (fun i wr => ∃ k : Nat, k ≤ l.length ∧ i = .int .i64 k ∧ SetW w wr N v1 v2 (.slice ga l.length cap) b l ∧ Box wr X 112 (excV (l.take k))) (fun i _ => l.length - (intOf i).toNat)
  case atStart => exact ⟨0, by omega, rfl, HW.out, by have h := HX.out; simpa using h⟩
  case round =>
    clear HW HX c0 zn
    obtain ⟨k, hk, rfl, hw, hx⟩ := hrel
    by_cases hlt : k < l.length
    · obtain ⟨g, cap', e1, hg, hgs⟩ := hw.net.own.form (by omega)
      cases e1
      obtain ⟨e0, e1, e2, e3, e4⟩ := (hw.net.own.at Ac.encW_len k hlt).c5
      obtain ⟨p1, p2, p3, p4, p5, p6, p7⟩ := HP.out l[k] (List.getElem_mem hlt)
      have HTK := Lib.hid (take_snoc l k hlt)
      have HST := Lib.hid (excV_step (l.take k) l[k] (by omega) (by omega) p3)
      have hb : ∀ v, -160000000000 ≤ exc v (l.take k) ∧ exc v (l.take k) ≤ 160000000000 := fun v => by
        have h := tot_bound (fun a => a.at v) 999999999 (l.take k) (fun a ha => by
          have := HP.out a (List.mem_of_mem_take ha)
          unfold Ac.at
          split <;> split <;> omega)
        have : ((l.take k).length : Int) ≤ 160 := by have := List.length_take_le k l; omega
        unfold exc
        omega
      generalize l[k] = a at *
      obtain ⟨fr, to, lo, hi, fl⟩ := a
      dsimp only at *
      subst p4
      obtain ⟨b1, b2⟩ := hb fr
      obtain ⟨b3, b4⟩ := hb to
      clear hb
      have x1 := hx.cell to
      have x2 := hx.cell fr
      rw [excV_get _ to (by omega)] at x1
      rw [excV_get _ fr (by omega)] at x2
      have fx := hx.frozen
      have zx := hx.lt
      go_wp2_with fail
      have hwA := hw.later ((Below.refl _ _).alloc (Nat.le_refl _) (.cells #[.int .i64 fl, .int .i64 hi, .int .i64 fr, .int .i64 to, .int .i64 fl] 92))
      have hxA := hx.alloc (.cells #[.int .i64 fl, .int .i64 hi, .int .i64 fr, .int .i64 to, .int .i64 fl] 92)
      have hbt := Box.new wr #[.int .i64 fl, .int .i64 hi, .int .i64 fr, .int .i64 to, .int .i64 fl] 92
      generalize wr.alloc (.cells #[.int .i64 fl, .int .i64 hi, .int .i64 fr, .int .i64 to, .int .i64 fl] 92) = W0 at *
      clear hw hx e0 e1 e2 e3 e4 x1 x2 fx
      generalize wr.heap.size = Bt at *
      have t0 := hbt.cell 0
      have t2 := hbt.cell 2
      have t3 := hbt.cell 3
      have x1 := hxA.cell to
      rw [excV_get _ to (by omega)] at x1
      have fx := hxA.frozen
      have zx2 := hxA.lt
      simp only [List.getElem?_cons_zero, List.getElem?_cons_succ] at t0 t2 t3
      refine wp_region_head_drew 9 (by kernel_rfl) (by kernel_rfl) ?_
      simp only [List.take_succ_cons, List.take_zero, List.drop_succ_cons, List.drop_zero]
      repeat go_big_quiet_step (fail)
      refine wpQuiet_nil ?_
      rintro _ ⟨nq, rfl⟩
      go_wp2_with fail
      have hxB := (hxA.later (below_drewN (Below.refl _ _) nq)).set to (.int .i64 (exc to (l.take k) + fl))
      have hwB := (hwA.drewN nq).other (hxA.later (below_drewN (Below.refl _ _) nq)) hX to (.int .i64 (exc to (l.take k) + fl))
      have hbB := (hbt.later (below_drewN (Below.refl _ _) nq)).other (a := ⟨X, to, none⟩) (.int .i64 (exc to (l.take k) + fl)) (fun e => by
        have h1 : W0.heap[Bt]? = _ := hbt
        have h2 : W0.heap[X]? = _ := hxA
        have e' : X = Bt := e
        rw [e', h1] at h2
        injection h2 with h3
        injection h3 with _ h4 _
        exact absurd h4 (by decide))
      generalize (W0.drewN nq).setCell ⟨X, to, none⟩ (.int .i64 (exc to (l.take k) + fl)) = W1 at *
      clear nq
      clear x1 fx zx2 t0 t2 t3 hwA hxA hbt
      have t0 := hbB.cell 0
      have t1 := hbB.cell 1
      have t2 := hbB.cell 2
      have x2 := hxB.cell fr
      rw [List.getElem?_set_ne (Ne.symm p3), excV_get _ fr (by omega)] at x2
      have fx := hxB.frozen
      have zx2 := hxB.lt
      simp only [List.getElem?_cons_zero, List.getElem?_cons_succ] at t0 t1 t2
      refine wp_region_head_drew 9 (by kernel_rfl) (by kernel_rfl) ?_
      simp only [List.take_succ_cons, List.take_zero, List.drop_succ_cons, List.drop_zero]
      repeat go_big_quiet_step (fail)
      refine wpQuiet_nil ?_
      rintro _ ⟨nq, rfl⟩
      go_wp2_with fail
      go_roundw
      case rel =>
        refine ⟨k + 1, by omega, by go_num, (hwB.drewN nq).other (hxB.later (below_drewN (Below.refl _ _) nq)) hX fr _, ?_⟩
        rw [HTK.out, ← HST.out]
        exact (hxB.later (below_drewN (Below.refl _ _) nq)).set fr _
      case measure => simp [intOf]; omega
    · obtain rfl : l.length = k := by omega
      rw [List.take_length] at hx
      go_wp2_with fail
      rw [← HQ.out]
      refine ⟨rfl, ?_, hw, hx⟩
      apply fr72_act <;> rfl
end Go.Proofs.YtflchbejjofppaaGreatDoor
/- Walks: settle: the arcs from the source and to the sink. -/
namespace Go.Proofs.YtflchbejjofppaaGreatDoor
open Go Go.Proofs Go.RowKit
noncomputable def p72d : Code := codeL (codeR (codeR q72b))
theorem run_index_exc (l : List Ac) (k : Nat) (hk : k < 36) (w : World) : (Instr.index 112 (.agg (excV l).toArray) (.int .i64 k)).run Tryz.prog w = .ok (.int .i64 (exc k l)) w := by
  have h1 : Tryz.prog.underlying 112 = some (.array 36 3) := Tryz.underlying112
  have h2 := excV_get l k hk
  obtain ⟨i, hi, _, hz, _⟩ := info_parts (show (Tryz.prog.info? 3).map (fun i => (i.zero, i.size, i.bytes)) = some (some (.int .i64 0), 1, 8) by kernel_rfl)
  have h4 : Tryz.prog.underlying 3 = some (.int .i64) := Tryz.underlying3
  simp [Instr.index, run_underlying h1, asIntOf, sizeOf, typeInfo, hi, hz, part, Sem.run_bind, h2]
  intro h; omega
theorem wantOf_bd (E : Nat → Int) (c : Int) (h : ∀ v, -c ≤ E v ∧ E v ≤ c) (k : Nat) : 0 ≤ wantOf E k ∧ wantOf E k ≤ k * c := by
  induction k with
  | zero => simp [wantOf, sumN]
  | succ k ih =>
    have h1 := h k
    unfold wantOf at *
    simp only [sumN, Int.natCast_add, Int.add_mul]
    split <;> omega
theorem extras_len (E : Nat → Int) (S T k : Nat) : (extras E S T k).length ≤ k := by
  induction k with
  | zero => simp [extras]
  | succ k ih =>
    rw [extras_succ, List.length_append]
    have : (extA E S T k).length ≤ 1 := by unfold extA; split <;> (try split) <;> simp
    omega
set_option maxRecDepth 100000 in
set_option maxHeartbeats 1000000 in
theorem p72d_walk (w W : World) (N X : Nat) (v1 v2 v0 : Value) (b : Bk) (hok : OkBk b) (s14 : Value) (z : Nat → Value) (hw : SetW w W N v1 v2 v0 b (arcsOf b)) (hx : Box W X 112 (excV (arcsOf b))) (hX : N + 1 < X) :
    p72d.wp Tryz.prog (fun (e : Exit) (a : Act) (W' : World) => e = .normal ∧ (∃ z', a = { tmps := (fr72 N (.int .i64 (b.st.length + 2 : Nat)) (.int .i64 (b.st.length + 3 : Nat)) (.pointer (some ⟨X, 0, none⟩)) s14 (.int .i64 (wantOf (fun v => exc v (arcsOf b)) 36)) z').toArray, defers := [] }) ∧
        ∃ v, SetW w W' N v1 v2 v b (arcsOf b ++ extras (fun v => exc v (arcsOf b)) (b.st.length + 2) (b.st.length + 3) 36))
      { tmps := (fr72 N (.int .i64 (b.st.length + 2 : Nat)) (.int .i64 (b.st.length + 3 : Nat)) (.pointer (some ⟨X, 0, none⟩)) s14 (.int .i64 0) z).toArray, defers := [] } W := by
  obtain ⟨Q, hQ⟩ : ∃ Q : Exit → Act → World → Prop, (fun (e : Exit) (a : Act) (W' : World) => e = .normal ∧ (∃ z', a = ({ tmps := (fr72 N (.int .i64 (b.st.length + 2 : Nat)) (.int .i64 (b.st.length + 3 : Nat)) (.pointer (some ⟨X, 0, none⟩)) s14 (.int .i64 (wantOf (fun v => exc v (arcsOf b)) 36)) z').toArray, defers := [] } : Act)) ∧
        ∃ v, SetW w W' N v1 v2 v b (arcsOf b ++ extras (fun v => exc v (arcsOf b)) (b.st.length + 2) (b.st.length + 3) 36)) = Q := ⟨_, rfl⟩
  rw [hQ]
  have HQ := Lib.hid hQ
  clear hQ
  have HW := Lib.hid hw
  have HX := Lib.hid hx
  have hal := arcs_len b
  have h128 := hok.ts128
  have h32 := hok.st32
  have hb : ∀ v, -160000000000 ≤ exc v (arcsOf b) ∧ exc v (arcsOf b) ≤ 160000000000 := fun v => by
    have h := tot_bound (fun a => a.at v) 999999999 (arcsOf b) (fun a ha => by
      have := arcs_props hok ha
      unfold Ac.at
      split <;> split <;> omega)
    have : ((arcsOf b).length : Int) ≤ 160 := by omega
    unfold exc
    omega
  have HB := Lib.hid hb
  have hix := fun k hk => run_index_exc (arcsOf b) k hk
  have HIX := Lib.hid hix
  clear hb hix
  obtain ⟨S, hS⟩ : ∃ S, b.st.length + 2 = S := ⟨_, rfl⟩
  obtain ⟨T, hT⟩ : ∃ T, b.st.length + 3 = T := ⟨_, rfl⟩
  rw [hS, hT] at HQ ⊢
  obtain ⟨l, hl⟩ : ∃ l, arcsOf b = l := ⟨_, rfl⟩
  rw [hl] at hal HB HIX HQ HW HX
  have hll : l.length ≤ 160 := by omega
  have zx := hx.lt
  have HHX := Lib.hid (show W.heap[X]? = some (.cells (excV l).toArray 112 (0, 0)) from hl ▸ hx)
  have HI := Lib.hid (show (Tryz.prog.info? 112).map (·.size) = some (excV l).toArray.size by rw [List.size_toArray, excV_len]; kernel_rfl)
  have HU := Lib.hid Tryz.underlying112
  clear hw hx hok hl hal hS hT
  simp only [p72d, q72b, q72, c72, Tryz.f36, Option.getD, codeL, codeR, fr72]
  apply wp_seq_k; intro K0 hK0
  apply wp_region_lit
  refine wpList_load_row (by rfl) 112 (.tmp 11) (by rfl) X (by rfl) 112 _ _ _ HHX.out HU.out (by rfl) HI.out ?_
  simp only [Act.put, List.setIfInBounds_toArray, List.set_cons_succ, List.set_cons_zero]
  go_wp2_with fail
  go_loopw [15, 124] (fun wt i wr => ∃ (k : Nat) (v : Value), k ≤ 36 ∧ wt = .int .i64 (wantOf (fun v => exc v l) k) ∧ i = .int .i64 k ∧ SetW w wr N v1 v2 v b (l ++ extras (fun v => exc v l) S T k)) (fun _ i _ => 36 - (intOf i).toNat)
  case atStart => exact ⟨0, _, by omega, rfl, rfl, by have h := HW.out; simp only [extras, List.range_zero, List.flatMap_nil, List.append_nil]; exact h⟩
  case round =>
    clear HW HX zx
    obtain ⟨k, v, hk, rfl, rfl, hw⟩ := hrel
    by_cases hlt : k < 36
    · obtain ⟨m1, m2⟩ := HB.out k
      obtain ⟨t1, t2⟩ := wantOf_bd (fun v => exc v l) 160000000000 HB.out k
      have hix := HIX.out k hlt
      have HWS := Lib.hid (show wantOf (fun v => exc v l) (k + 1) = wantOf (fun v => exc v l) k + if 0 < exc k l then exc k l else 0 from rfl)
      have HES := Lib.hid (extras_succ (fun v => exc v l) S T k)
      have HEA := Lib.hid (show extA (fun v => exc v l) S T k = if 0 < exc k l then [⟨S, k, 0, exc k l, 0⟩] else if exc k l < 0 then [⟨k, T, 0, -exc k l, 0⟩] else [] from rfl)
      have hel := extras_len (fun v => exc v l) S T k
      obtain ⟨wt, hwt⟩ : ∃ wt, wantOf (fun v => exc v l) k = wt := ⟨_, rfl⟩
      rw [hwt] at t1 t2 HWS ⊢
      generalize exc k l = m at *
      have dz := hw.box.lt
      have zn := hw.net.box.lt
      have c0 := hw.net.toA.c0
      have fn := hw.net.box.frozen 0
      have n2' := hw.net.ne
      have HWA := Lib.hid hw
      have HT := Lib.hid Tryz.underlying93
      have HI2 := Lib.hid Tryz.info106
      have hlk : (l ++ extras (fun v => exc v l) S T k).length ≤ 1000000 := by simp; omega
      have HLK := Lib.hid hlk
      have hbase : N ≤ wr.heap.size := by omega
      have HBASE := Lib.hid hbase
      clear hw hlk hwt
      by_cases h1 : 0 < m
      · go_wp2_with (at_builtin; refine wpList_push Ac.encW 5 40 93 92 _ HT.out HI2.out rfl (by decide) (by decide) Ac.encW_len Ac.encW_one _ ⟨S, k, 0, m, 0⟩ N wr _ rfl v HWA.out.net.own HBASE.out HLK.out rfl _ _ rfl rfl rfl ?_; intro v' w' hown' hg'; obtain ⟨a', cap', rfl⟩ := hown'.shape; have HOW := Lib.hid hown'; have HGR := Lib.hid hg'; have hbn := HWA.out.net.box.grown hg' (Ne.symm n2'); have r0 := hbn.cell 0; have r1 := hbn.frozen 0; have r2 := hbn.lt; simp only [netCells, List.getElem?_cons_zero] at r0; clear hown' hg')
        go_roundw
        case rel =>
          have hp := HWA.out.pushed (Below.refl _ _) HGR.out HOW.out
          rw [show (l ++ extras (fun v => exc v l) S T k ++ [⟨S, k, 0, m, 0⟩] : List Ac).length = l.length + ((extras (fun v => exc v l) S T k).length + 1) by simp, List.append_assoc] at hp
          refine ⟨k + 1, .slice a' (l.length + ((extras (fun v => exc v l) S T k).length + 1)) cap', by omega, by rw [HWS.out, if_pos h1], by go_num, ?_⟩
          rw [HES.out, HEA.out, if_pos h1]
          exact hp
        case measure => simp [intOf]; omega
      by_cases h2 : m < 0
      · go_wp2_with (at_builtin; refine wpList_push Ac.encW 5 40 93 92 _ HT.out HI2.out rfl (by decide) (by decide) Ac.encW_len Ac.encW_one _ ⟨k, T, 0, -m, 0⟩ N wr _ rfl v HWA.out.net.own HBASE.out HLK.out rfl _ _ rfl rfl rfl ?_; intro v' w' hown' hg'; obtain ⟨a', cap', rfl⟩ := hown'.shape; have HOW := Lib.hid hown'; have HGR := Lib.hid hg'; have hbn := HWA.out.net.box.grown hg' (Ne.symm n2'); have r0 := hbn.cell 0; have r1 := hbn.frozen 0; have r2 := hbn.lt; simp only [netCells, List.getElem?_cons_zero] at r0; clear hown' hg')
        go_roundw
        case rel =>
          have hp := HWA.out.pushed (Below.refl _ _) HGR.out HOW.out
          rw [show (l ++ extras (fun v => exc v l) S T k ++ [⟨k, T, 0, -m, 0⟩] : List Ac).length = l.length + ((extras (fun v => exc v l) S T k).length + 1) by simp, List.append_assoc] at hp
          refine ⟨k + 1, .slice a' (l.length + ((extras (fun v => exc v l) S T k).length + 1)) cap', by omega, by rw [HWS.out, if_neg h1, Int.add_zero], by go_num, ?_⟩
          rw [HES.out, HEA.out, if_neg h1, if_pos h2]
          exact hp
        case measure => simp [intOf]; omega
      · go_wp2_with fail
        go_roundw
        case rel =>
          refine ⟨k + 1, v, by omega, by rw [HWS.out, if_neg h1, Int.add_zero], by go_num, ?_⟩
          rw [HES.out, HEA.out, if_neg h1, if_neg h2, List.append_nil]
          exact HWA.out
        case measure => simp [intOf]; omega
    · obtain rfl : k = 36 := by omega
      go_wp2_with fail
      rw [← HQ.out]
      refine ⟨rfl, ?_, v, hw⟩
      apply fr72_act <;> rfl
end Go.Proofs.YtflchbejjofppaaGreatDoor
/- Walks: settle: the network of a book, and whether its flows are an assignment. -/
namespace Go.Proofs.YtflchbejjofppaaGreatDoor
open Go Go.Proofs Go.RowKit
def SettlePost (w : World) (b : Bk) (e : Ending) (w' : World) : Prop :=
  ∃ ok nb v l rc, e = .returned (.tuple #[.pointer (some ⟨nb, 0, none⟩), .bool ok]) ∧ NetR w' w.heap.size nb v l b.ts.length b.st.length rc ∧ Below w.heap.size w w' ∧ w.heap.size ≤ nb ∧ shp l = shp (arcsOf b) ∧ Fits l ∧
    (ok = true → Circ (b.st.length + 1) l) ∧ (ok = false → 0 < cutv (fun x => rc.getD x false) (arcsOf b))
theorem Own.take {α : Type} {f : α → List Value} {sz : Nat} {e : TypeId} {w : World} {base g cap : Nat} {l l' : List α} (hf : ∀ x, (f x).length = sz) (h : Own f sz e w base (.slice (some ⟨g, 0, none⟩) (l ++ l').length cap) (l ++ l')) :
    Own f sz e w base (.slice (some ⟨g, 0, none⟩) l.length cap) l := by
  obtain ⟨h1, h2⟩ := h
  refine ⟨flat_length f sz hf l, ?_⟩
  rcases h2 with ⟨h2, _⟩ | ⟨g', cap', cur, h2, h3, h4, h5, h6, h7, h8⟩
  · cases h2
  · simp only [Value.slice.injEq, Option.some.injEq, Addr.mk.injEq, and_true, true_and] at h2
    obtain ⟨rfl, rfl⟩ := h2
    refine .inr ⟨g, cap, cur, rfl, h3, h4, by simp at h5; omega, h6, h7, ?_⟩
    have e := congrArg (List.take (l.length * sz)) h8
    have hle : l.length * sz ≤ (l ++ l').length * sz := Nat.mul_le_mul_right _ (by simp)
    have hl := flat_length f sz hf l
    rw [List.take_take, Nat.min_eq_left hle, List.flatMap_append, List.take_append_of_le_length (by omega), List.take_of_length_le (l := l.flatMap f) (by omega)] at e
    exact e
theorem NetR.trim {w : World} {B nb g cap : Nat} {l l' : List Ac} {tk pl : Nat} {rc : List Bool} (h : NetR w B nb (.slice (some ⟨g, 0, none⟩) (l ++ l').length cap) (l ++ l') tk pl rc) :
    NetR (w.setCell ⟨nb, 0, none⟩ (.slice (some ⟨g, 0, none⟩) l.length cap)) B nb (.slice (some ⟨g, 0, none⟩) l.length cap) l tk pl rc := by
  have h1 := h.ne
  refine ⟨h.box.set 0 _, (h.own.take Ac.encW_len).other _ ?_, ?_, h.n36⟩
  · intro e; exact h1 e
  · intro e; exact h1 e
theorem NetR.trim0 {w : World} {B nb : Nat} {tk pl : Nat} {rc : List Bool} (h : NetR w B nb (.slice none 0 0) [] tk pl rc) : NetR (w.setCell ⟨nb, 0, none⟩ (.slice none 0 0)) B nb (.slice none 0 0) [] tk pl rc :=
  ⟨h.box.set 0 _, Own.nil _ _ _ _ _, by simp [Value.ownBlock], h.n36⟩
def fr72g (N own : Nat) (want got : Int) (z : Nat → Value) : List Value := [z 0, .pointer (some ⟨N, 0, none⟩), z 2, z 3, .pointer (some ⟨N + 1, 0, none⟩), z 5, z 6, z 7, z 8, z 9, z 10, z 11, z 12, z 13, .int .i64 own, .int .i64 want, z 16, z 17, .int .i64 got, z 19, z 20, z 21, z 22, z 23, z 24, z 25, z 26, z 27, z 28, z 29, z 30, z 31, z 32, z 33, z 34, z 35, z 36, z 37, z 38, z 39, z 40, z 41, z 42, z 43, z 44, z 45, z 46, z 47, z 48, z 49, z 50, z 51, z 52, z 53, z 54, z 55, z 56, z 57, z 58, z 59, z 60, z 61, z 62, z 63, z 64, z 65, z 66, z 67, z 68, z 69, z 70, z 71, z 72, z 73, z 74, z 75, z 76, z 77, z 78, z 79, z 80, z 81, z 82, z 83, z 84, z 85, z 86, z 87, z 88, z 89, z 90, z 91, z 92, z 93, z 94, z 95, z 96, z 97, z 98, z 99, z 100, z 101, z 102, z 103, z 104, z 105, z 106, z 107, z 108, z 109, z 110, z 111, z 112, z 113, z 114, z 115, z 116, z 117, z 118, z 119, z 120, z 121, z 122, z 123, z 124, z 125, z 126, z 127, z 128, z 129, z 130, z 131, z 132, z 133, z 134, z 135, z 136, z 137, z 138, z 139, z 140, z 141, z 142, z 143, z 144, z 145, z 146, z 147, z 148, z 149, z 150, z 151, z 152, z 153, z 154, z 155, z 156, z 157, z 158, z 159, z 160, z 161, z 162, z 163, z 164, z 165, z 166, z 167, z 168, z 169, z 170, z 171, z 172, z 173, z 174, z 175, z 176, z 177, z 178, z 179, z 180, z 181, z 182, z 183, z 184, z 185, z 186, z 187, z 188, z 189, z 190, z 191, z 192]
theorem fr72g_of (N own : Nat) (want got : Int) (L : List Value) (hL : L.length = 193) (h1 : L[1]? = some (.pointer (some ⟨N, 0, none⟩))) (h4 : L[4]? = some (.pointer (some ⟨N + 1, 0, none⟩))) (h14 : L[14]? = some (.int .i64 own)) (h15 : L[15]? = some (.int .i64 want)) (h18 : L[18]? = some (.int .i64 got)) : ∃ z, L = fr72g N own want got z := by
  refine ⟨fun i => L.getD i undef, ?_⟩
  unfold fr72g
  have e := list_range L 193 hL
  have e1 : L.getD 1 undef = .pointer (some ⟨N, 0, none⟩) := by rw [List.getD_eq_getElem?_getD, h1]; rfl
  have e4 : L.getD 4 undef = .pointer (some ⟨N + 1, 0, none⟩) := by rw [List.getD_eq_getElem?_getD, h4]; rfl
  have e14 : L.getD 14 undef = .int .i64 own := by rw [List.getD_eq_getElem?_getD, h14]; rfl
  have e15 : L.getD 15 undef = .int .i64 want := by rw [List.getD_eq_getElem?_getD, h15]; rfl
  have e18 : L.getD 18 undef = .int .i64 got := by rw [List.getD_eq_getElem?_getD, h18]; rfl
  rw [← e1, ← e4, ← e14, ← e15, ← e18]
  exact e
theorem fr72g_act (N own : Nat) (want got : Int) (A : Act) (ds : List Deferred) (hds : A.defers = ds) (hL : A.tmps.size = 193) (h1 : A.tmps[1]? = some (.pointer (some ⟨N, 0, none⟩))) (h4 : A.tmps[4]? = some (.pointer (some ⟨N + 1, 0, none⟩))) (h14 : A.tmps[14]? = some (.int .i64 own)) (h15 : A.tmps[15]? = some (.int .i64 want)) (h18 : A.tmps[18]? = some (.int .i64 got)) : ∃ z, A = { tmps := (fr72g N own want got z).toArray, defers := ds } := by
  obtain ⟨z, e⟩ := fr72g_of N own want got A.tmps.toList (by rw [Array.length_toList]; exact hL) (by rw [Array.getElem?_toList]; exact h1) (by rw [Array.getElem?_toList]; exact h4) (by rw [Array.getElem?_toList]; exact h14) (by rw [Array.getElem?_toList]; exact h15) (by rw [Array.getElem?_toList]; exact h18)
  exact ⟨z, by cases A; subst hds; dsimp only at e ⊢; rw [← e]⟩
noncomputable def e72 : Code := codeR (codeR (codeR q72b))
def netOf (b : Bk) : List Ac := arcsOf b ++ extras (fun v => exc v (arcsOf b)) (b.st.length + 2) (b.st.length + 3) 36
theorem arcs_ends {b : Bk} (hok : OkBk b) : Ends (b.st.length + 1) (arcsOf b) := fun a ha => by have := arcs_props hok ha; omega
theorem exc_bd {b : Bk} (hok : OkBk b) (v : Nat) : -160000000000 ≤ exc v (arcsOf b) ∧ exc v (arcsOf b) ≤ 160000000000 := by
  have h := tot_bound (fun a => a.at v) 999999999 (arcsOf b) (fun a ha => by
    have := arcs_props hok ha
    unfold Ac.at
    split <;> split <;> omega)
  have h1 := arcs_len b
  have h2 := hok.ts128
  have h3 := hok.st32
  have : ((arcsOf b).length : Int) ≤ 160 := by omega
  unfold exc
  omega
theorem net_facts {b : Bk} (hok : OkBk b) : (netOf b).length ≤ 1000 ∧ SmallS (netOf b) 1000000000000 ∧ Fits (netOf b) ∧ Ends 36 (netOf b) := by
  have h1 := arcs_len b
  have h2 := hok.ts128
  have h3 := hok.st32
  have hE := arcs_ends hok
  refine ⟨?_, ?_, ?_, ?_⟩
  · have := extras_len (fun v => exc v (arcsOf b)) (b.st.length + 2) (b.st.length + 3) 36
    unfold netOf; rw [List.length_append]; omega
  · intro a ha
    rcases List.mem_append.1 ha with ha | ha
    · have := arcs_props hok ha; omega
    · obtain ⟨v, _, ⟨h4, rfl⟩ | ⟨h4, rfl⟩⟩ := extras_mem _ _ _ ha <;> (have := exc_bd hok v; dsimp only at *; omega)
  · intro a ha
    rcases List.mem_append.1 ha with ha | ha
    · have := arcs_props hok ha; omega
    · obtain ⟨v, _, ⟨h4, rfl⟩ | ⟨h4, rfl⟩⟩ := extras_mem _ _ _ ha <;> (dsimp only at *; omega)
  · intro a ha
    rcases List.mem_append.1 ha with ha | ha
    · have := hE a ha; omega
    · obtain ⟨v, _, ⟨h4, rfl⟩ | ⟨h4, rfl⟩⟩ := extras_mem _ _ _ ha <;> (dsimp only at *; omega)
noncomputable def g72 : Code := codeR (codeR e72)
set_option maxRecDepth 100000 in
set_option maxHeartbeats 1000000 in
theorem g72_walk (w W : World) (N : Nat) (v : Value) (b : Bk) (A X : List Ac) (rc : List Bool) (got want : Int) (hl : A.length = (arcsOf b).length) (hX : X.length ≤ 36) (hb5 : A.length ≤ 1000) (hn : NetR W N (N + 1) v (A ++ X) b.ts.length b.st.length rc) (hN : N = w.heap.size) (hb : Below N w W) (z : Nat → Value)
    (hs : shp A = shp (arcsOf b)) (hf : Fits A) (hok : got = want → Circ (b.st.length + 1) A) (hno : got ≠ want → 0 < cutv (fun x => rc.getD x false) (arcsOf b)) :
    g72.wp Tryz.prog (bodyPost Tryz.prog Tryz.f36 (SettlePost w b)) { tmps := (fr72g N (arcsOf b).length want got z).toArray, defers := [] } W := by
  obtain ⟨Q, hQ⟩ : ∃ Q, bodyPost Tryz.prog Tryz.f36 (SettlePost w b) = Q := ⟨_, rfl⟩
  rw [hQ]
  have HQ := Lib.hid hQ
  clear hQ
  have zn := hn.box.lt
  have fn := hn.box.frozen 0
  have c0 := hn.toA.c0
  rw [← hl]
  have HL := Lib.hid hl
  clear hl
  have HS := Lib.hid (show shp A = shp (arcsOf b) ∧ Fits A ∧ (got = want → Circ (b.st.length + 1) A) ∧ (got ≠ want → 0 < cutv (fun x => rc.getD x false) (arcsOf b)) from ⟨hs, hf, hok, hno⟩)
  clear hs hf hok hno
  have HN := Lib.hid hn
  have hlen : (A ++ X).length = A.length + X.length := List.length_append
  have HFIN := Lib.hid (show ∀ (v' : Value) (W' : World) (ok : Bool), NetR W' N (N + 1) v' A b.ts.length b.st.length rc → Below N w W' → ok = (got == want) → SettlePost w b (.returned (.tuple #[.pointer (some ⟨N + 1, 0, none⟩), .bool ok])) W' from fun v' W' ok k1 k2 k3 => by
    have h := HS.out
    refine ⟨ok, N + 1, v', A, rc, rfl, by rw [← hN]; exact k1, by rw [← hN]; exact k2, by omega, h.1, h.2.1, fun e => h.2.2.1 ?_, fun e => h.2.2.2 ?_⟩
    · rw [k3] at e; exact eq_of_beq e
    · rw [k3] at e; exact fun e' => by rw [e'] at e; simp at e)
  have hb' := hb.size
  have HBL := Lib.hid hb
  have HNN := Lib.hid hN
  clear hN
  clear hb
  rcases hn.own.2 with ⟨rfl, h0⟩ | ⟨g, cap, cur, rfl, _, _, hcap, hmx, _⟩
  · obtain rfl : A = [] := List.eq_nil_of_length_eq_zero (by omega)
    obtain rfl : X = [] := List.eq_nil_of_length_eq_zero (by omega)
    simp only [List.length_nil]
    clear hn hlen h0
    simp only [g72, e72, q72b, q72, c72, Tryz.f36, Option.getD, codeL, codeR, fr72g]
    go_wp2_with fail
    rw [← HQ.out]
    go_ret2
    exact HFIN.out _ _ _ HN.out.trim0 (HBL.out.setCell (by dsimp only; omega) _) rfl
  · rw [hlen] at hcap c0
    simp only [g72, e72, q72b, q72, c72, Tryz.f36, Option.getD, codeL, codeR, fr72g]
    by_cases hc0 : cap = 0
    · subst hc0
      obtain rfl : A = [] := List.eq_nil_of_length_eq_zero (by omega)
      obtain rfl : X = [] := List.eq_nil_of_length_eq_zero (by omega)
      simp only [List.length_nil] at hlen hcap c0 ⊢
      go_wp2_with fail
      rw [← HQ.out]
      go_ret2
      exact HFIN.out _ _ _ HN.out.trim (HBL.out.setCell (by dsimp only; omega) _) rfl
    · go_wp2_with fail
      rw [← HQ.out]
      go_ret2
      exact HFIN.out _ _ _ HN.out.trim (HBL.out.setCell (by dsimp only; omega) _) rfl
end Go.Proofs.YtflchbejjofppaaGreatDoor
/- Walks: settle, whole. -/
namespace Go.Proofs.YtflchbejjofppaaGreatDoor
open Go Go.Proofs Go.RowKit
theorem e72_eq : e72 = .seq (codeL e72) (.seq (codeL (codeR e72)) g72) := rfl
set_option maxRecDepth 100000 in
set_option maxHeartbeats 1000000 in
theorem e72_walk (w W : World) (N : Nat) (v1 v2 v : Value) (b : Bk) (hok : OkBk b) (s11 : Value) (z : Nat → Value) (hw : SetW w W N v1 v2 v b (netOf b)) :
    e72.wp Tryz.prog (bodyPost Tryz.prog Tryz.f36 (SettlePost w b))
      { tmps := (fr72 N (.int .i64 (b.st.length + 2 : Nat)) (.int .i64 (b.st.length + 3 : Nat)) s11 (.int .i64 (arcsOf b).length) (.int .i64 (wantOf (fun v => exc v (arcsOf b)) 36)) z).toArray, defers := [] } W := by
  obtain ⟨f1, f2, f3, f4⟩ := net_facts hok
  have hwb := wantOf_bd (fun v => exc v (arcsOf b)) 160000000000 (exc_bd hok) 36
  have hE := arcs_ends hok
  have h32 := hok.st32
  have hlen := arcs_len b
  have h128 := hok.ts128
  have hxl := extras_len (fun v => exc v (arcsOf b)) (b.st.length + 2) (b.st.length + 3) 36
  obtain ⟨want, hwant⟩ : ∃ x, wantOf (fun v => exc v (arcsOf b)) 36 = x := ⟨_, rfl⟩
  rw [hwant] at hwb ⊢
  have FIN : ∀ (A' : Act) (W2 : World) (got : Int) (l' : List Ac) (rc : List Bool), NetR W2 N (N + 1) v l' b.ts.length b.st.length rc → Kept (Mine (N + 1) v) W W2 → Flow (netOf b) l' (b.st.length + 2) (b.st.length + 3) (-1) got → got ≤ want →
      (got ≠ want → Closed (fun x => rc.getD x false) (-1) l' ∧ rc.getD (b.st.length + 2) false = true ∧ rc.getD (b.st.length + 3) false = false) → (∃ z', A' = { tmps := (fr72g N (arcsOf b).length want got z').toArray, defers := [] }) →
      g72.wp Tryz.prog (bodyPost Tryz.prog Tryz.f36 (SettlePost w b)) A' W2 := by
    rintro A' W2 got l' rc hn hk hfl hle hcl ⟨z', rfl⟩
    have hsh : shp l' = shp (arcsOf b ++ extras (fun v => exc v (arcsOf b)) (b.st.length + 1 + 1) (b.st.length + 1 + 2) 36) := hfl.shape
    have hfit := hfl.fits f3
    have hex : ∀ x, exc x l' = exc x (arcsOf b ++ extras (fun v => exc v (arcsOf b)) (b.st.length + 1 + 1) (b.st.length + 1 + 2) 36) + (if b.st.length + 1 + 2 = x then got else 0) - (if b.st.length + 1 + 1 = x then got else 0) := hfl.ex
    obtain ⟨A, X, hAX, hl1, hl2, hl3⟩ := split_shp hsh
    have hX : X.length ≤ 36 := by rw [shp_length hl3]; exact hxl
    subst hAX
    have hbel : Below N w W2 := hw.below.trans (hk.toBelow (by have := hw.box.lt; omega) fun k hk => by
      rcases hk with rfl | hk
      · omega
      · exact (World.ownsRow.lt hw.net.own k hk).1)
    refine g72_walk w W2 N v b A X rc got want hl1 hX (by omega) hn hw.hN hbel z' hl2 (fun a ha => hfit a (List.mem_append_left _ ha)) (fun e => ?_) (fun e => ?_)
    · obtain ⟨A2, X2, e1, e2, e3, e4⟩ := settle_ok hE (by omega) hsh hfit hex (by rw [e, hwant])
      obtain ⟨rfl, _⟩ := List.append_inj e1 (by omega)
      exact e4
    · obtain ⟨c1, c2, c3⟩ := hcl e
      exact settle_cut hE (by omega) hsh hex (by rw [hwant]; omega) c1 c2 c3
  have HFIN := Lib.hid FIN
  clear FIN
  have HAUG := Lib.hid (fun (w1 : World) (l' : List Ac) (rc : List Bool) (got : Int) (hn : NetR w1 N (N + 1) v l' b.ts.length b.st.length rc) (hfl : Flow (netOf b) l' (b.st.length + 2) (b.st.length + 3) (-1) got) (h0 : 0 < want) =>
    aug91 N (N + 1) v l' b.ts.length b.st.length rc (b.st.length + 2) (b.st.length + 3) want (-1) w1 hn (by rw [shp_length hfl.shape]; exact f1) (small_of (f2.shp hfl.shape) (hfl.fits f3)) (shp_ends hfl.shape.symm f4) (by omega) (by omega) (by omega) h0 (by omega))
  have HC := Lib.hid (flood90 N (N + 1) v (netOf b) b.ts.length b.st.length (List.replicate 36 false) (b.st.length + 2) (b.st.length + 3) want (-1) W hw.net f1 f2 f3 f4 (by omega) (by omega) (by omega) hwb.1 (by omega))
  clear f1 f2 f3 f4 hE hw hok hxl
  obtain ⟨S, hS⟩ : ∃ S, b.st.length + 2 = S := ⟨_, rfl⟩
  obtain ⟨T, hT⟩ : ∃ T, b.st.length + 3 = T := ⟨_, rfl⟩
  rw [hS, hT] at HC HAUG HFIN ⊢
  have HWANT := Lib.hid hwant
  clear hwant
  have HS := Lib.hid hS
  clear hS
  have HT := Lib.hid hT
  clear hT
  have HLEN := Lib.hid hlen
  clear hlen
  obtain ⟨Q, hQ⟩ : ∃ Q, bodyPost Tryz.prog Tryz.f36 (SettlePost w b) = Q := ⟨_, rfl⟩
  rw [hQ] at HFIN ⊢
  have HQ := Lib.hid hQ
  clear hQ
  rw [e72_eq]
  simp only [e72, q72b, q72, c72, Tryz.f36, Option.getD, codeL, codeR, fr72]
  go_wp2_with fail
  refine HC.out.mono ?_
  rintro e w1 ⟨got, l', rc', rfl, hn, hk, hfl, hg0, hg1, hor⟩
  have HN := Lib.hid hn
  have HK := Lib.hid hk
  have HFL := Lib.hid hfl
  have HOR := Lib.hid hor
  clear hn hk hfl hor
  by_cases hgw : got = want
  · subst hgw
    go_wp2_with fail
    refine HFIN.out _ w1 got l' rc' HN.out HK.out HFL.out (by omega) (fun h => absurd rfl h) ?_
    apply fr72g_act <;> rfl
  · have hlt : got < want := by omega
    have HGW := Lib.hid hgw
    clear hgw
    go_wp2_with fail
    refine (HAUG.out w1 l' rc' got HN.out HFL.out (by omega)).mono ?_
    rintro e w2 ⟨m, l2, rc2, rfl, hn2, hk2, (⟨rfl, rfl, c1, c2, c3⟩ | ⟨p, p1, p2, p3, p4, p5, rfl⟩)⟩
    · have HN2 := Lib.hid hn2
      have HK2 := Lib.hid hk2
      have HCC := Lib.hid (show Closed (fun x => rc2.getD x false) (-1) l2 ∧ rc2.getD S false = true ∧ rc2.getD T false = false from ⟨c1, c2, c3⟩)
      clear hn2 hk2 c1 c2 c3
      go_wp2_with fail
      refine HFIN.out _ w2 got l2 rc2 HN2.out (HK.out.trans HK2.out) HFL.out (by omega) (fun _ => HCC.out) ?_
      apply fr72g_act <;> rfl
    · exfalso
      obtain ⟨c1, c2, c3⟩ := HOR.out.resolve_left HGW.out
      have := c1.no_way p1 (fun s hs => by have := p3 s hs; omega) c2
      rw [c3] at this
      cases this
end Go.Proofs.YtflchbejjofppaaGreatDoor
/- Walks: settle, whole. -/
namespace Go.Proofs.YtflchbejjofppaaGreatDoor
open Go Go.Proofs Go.RowKit
theorem q72_eq : q72 = .seq (codeL q72) (.seq (codeL (codeR q72)) (.seq l72c q72b)) := rfl
theorem q72b_eq : q72b = .seq (codeL q72b) (.seq (codeL (codeR q72b)) (.seq p72d e72)) := rfl
set_option maxRecDepth 100000 in
set_option maxHeartbeats 1000000 in
theorem q72b_walk (w W : World) (N X : Nat) (v1 v2 v : Value) (b : Bk) (hok : OkBk b) (s14 s15 : Value) (z : Nat → Value) (hw : SetW w W N v1 v2 v b (arcsOf b)) (hx : Box W X 112 (excV (arcsOf b))) (hX : N + 1 < X) :
    q72b.wp Tryz.prog (bodyPost Tryz.prog Tryz.f36 (SettlePost w b))
      { tmps := (fr72 N (.int .i64 (b.st.length + 2 : Nat)) (.int .i64 (b.st.length + 3 : Nat)) (.pointer (some ⟨X, 0, none⟩)) s14 s15 z).toArray, defers := [] } W := by
  have FIN : ∀ (A' : Act), (∃ z', A' = { tmps := (fr72 N (.int .i64 (b.st.length + 2 : Nat)) (.int .i64 (b.st.length + 3 : Nat)) (.pointer (some ⟨X, 0, none⟩)) (.int .i64 (arcsOf b).length) (.int .i64 0) z').toArray, defers := [] }) → (Code.seq p72d e72).wp Tryz.prog (bodyPost Tryz.prog Tryz.f36 (SettlePost w b)) A' W := by
    rintro A' ⟨z', rfl⟩
    refine wp_seq (wp_mono (p72d_walk w W N X v1 v2 v b hok _ z' hw hx hX) ?_)
    rintro e a W' ⟨rfl, ⟨z2, rfl⟩, v', hw'⟩
    exact e72_walk w W' N v1 v2 v' b hok _ z2 hw'
  have c0 := hw.net.toA.c0
  have zn := hw.net.box.lt
  have f0 := hw.net.box.frozen 0
  obtain ⟨a', cap', rfl⟩ := hw.net.own.shape
  have hlen := arcs_len b
  have h32 := hok.st32
  have h128 := hok.ts128
  obtain ⟨m, hm⟩ : ∃ m, (arcsOf b).length = m := ⟨_, rfl⟩
  rw [hm] at hlen c0 FIN
  have HLEN := Lib.hid hlen
  clear hlen
  clear hm hw hx hok
  have HFIN := Lib.hid FIN
  clear FIN
  obtain ⟨Q, hQ⟩ : ∃ Q, bodyPost Tryz.prog Tryz.f36 (SettlePost w b) = Q := ⟨_, rfl⟩
  rw [hQ] at HFIN ⊢
  have HQ := Lib.hid hQ
  clear hQ
  rw [q72b_eq]
  obtain ⟨R, hR⟩ : ∃ R, Code.seq p72d e72 = R := ⟨_, rfl⟩
  rw [hR] at HFIN ⊢
  have HR := Lib.hid hR
  clear hR
  obtain ⟨S, hS⟩ : ∃ S, b.st.length + 2 = S := ⟨_, rfl⟩
  obtain ⟨T, hT⟩ : ∃ T, b.st.length + 3 = T := ⟨_, rfl⟩
  rw [hS, hT] at HFIN ⊢
  have HS := Lib.hid hS
  clear hS
  have HT := Lib.hid hT
  clear hT
  simp only [q72b, q72, c72, Tryz.f36, Option.getD, codeL, codeR, fr72]
  go_wp2_with fail
  refine HFIN.out _ ?_
  apply fr72_act <;> rfl
theorem excV_nil : excV [] = ints (List.replicate 36 0) := by kernel_rfl
set_option maxRecDepth 100000 in
set_option maxHeartbeats 1000000 in
theorem q72_walk (w W : World) (N : Nat) (v1 v2 v : Value) (b : Bk) (hok : OkBk b) (s9 s10 s11 s14 s15 : Value) (z : Nat → Value) (hw : SetW w W N v1 v2 v b (arcsOf b)) :
    q72.wp Tryz.prog (bodyPost Tryz.prog Tryz.f36 (SettlePost w b)) { tmps := (fr72 N s9 s10 s11 s14 s15 z).toArray, defers := [] } W := by
  have FIN : ∀ (A' : Act) (W' : World), (∃ z', A' = { tmps := (fr72 N (.int .i64 (b.st.length + 2 : Nat)) (.int .i64 (b.st.length + 3 : Nat)) (.pointer (some ⟨W.heap.size, 0, none⟩)) s14 s15 z').toArray, defers := [] }) →
      (∃ nq, W' = (W.drewN nq).alloc (.cells (ints (List.replicate 36 0)).toArray 112)) → (Code.seq l72c q72b).wp Tryz.prog (bodyPost Tryz.prog Tryz.f36 (SettlePost w b)) A' W' := by
    rintro A' W' ⟨z', rfl⟩ ⟨nq, rfl⟩
    have hX : N + 1 < W.heap.size := hw.net.box.lt
    have hw1 := hw.later ((below_drewN (Below.refl _ _) nq).alloc (Nat.le_refl _) (.cells (ints (List.replicate 36 0)).toArray 112))
    have hx1 := Box.new (W.drewN nq) (ints (List.replicate 36 0)).toArray 112
    refine wp_seq (wp_mono (l72c_walk w _ N W.heap.size v1 v2 v b hok _ _ _ _ z' hw1 (by rw [excV_nil]; exact hx1) hX) ?_)
    rintro e a W2 ⟨rfl, ⟨z2, rfl⟩, hw2, hx2⟩
    exact q72b_walk w W2 N _ v1 v2 v b hok _ _ z2 hw2 hx2 hX
  have c2 := hw.net.box.cell 2
  have zn := hw.net.box.lt
  simp only [netCells, List.getElem?_cons_zero, List.getElem?_cons_succ] at c2
  have h32 := hok.st32
  have f2 := hw.net.box.frozen 2
  clear hw hok
  have HFIN := Lib.hid FIN
  clear FIN
  obtain ⟨Q, hQ⟩ : ∃ Q, bodyPost Tryz.prog Tryz.f36 (SettlePost w b) = Q := ⟨_, rfl⟩
  rw [hQ] at HFIN ⊢
  have HQ := Lib.hid hQ
  clear hQ
  rw [q72_eq]
  obtain ⟨R, hR⟩ : ∃ R, Code.seq l72c q72b = R := ⟨_, rfl⟩
  rw [hR] at HFIN ⊢
  have HR := Lib.hid hR
  clear hR
  simp only [q72, c72, Tryz.f36, Option.getD, codeL, codeR, fr72]
  go_wp2_with fail
  go_quiet (fail)
  go_wp2_with fail
  refine HFIN.out _ _ ?_ ⟨nq, rfl⟩
  apply fr72_act <;> rfl
set_option maxRecDepth 100000 in
set_option maxHeartbeats 1000000 in
theorem settle72 (w : World) (v1 v2 : Value) (b : Bk) (hok : OkBk b) (hv : BkR w w.heap.size v1 v2 b) :
    Calls Tryz.prog 36 #[.agg #[v1, v2]] w (SettlePost w b) := by
  have FIN : ∀ (A' : Act) (W' : World), (∃ s9 s10 s11 s14 s15 z', A' = { tmps := (fr72 w.heap.size s9 s10 s11 s14 s15 z').toArray, defers := [] }) →
      W' = (w.alloc (.cells #[v1, v2] 25)).alloc (.cells (netCells (.slice none 0 0) b.ts.length b.st.length (List.replicate 36 false)).toArray 96) → (Code.seq p72a (.seq p72b q72)).wp Tryz.prog (bodyPost Tryz.prog Tryz.f36 (SettlePost w b)) A' W' := by
    rintro A' W' ⟨s9, s10, s11, s14, s15, z', rfl⟩ rfl
    have hw : SetW w ((w.alloc (.cells #[v1, v2] 25)).alloc (.cells (netCells (.slice none 0 0) b.ts.length b.st.length (List.replicate 36 false)).toArray 96)) w.heap.size v1 v2 (.slice none 0 0) b [] := by
      have hx1 := Box.new w #[v1, v2] 25
      have hx2 := Box.new (w.alloc (.cells #[v1, v2] 25)) (netCells (.slice none 0 0) b.ts.length b.st.length (List.replicate 36 false)).toArray 96
      have hs : (w.alloc (.cells #[v1, v2] 25)).heap.size = w.heap.size + 1 := by simp
      rw [hs] at hx2
      refine ⟨rfl, hv, hx1.alloc _, ⟨by simpa using hx2, ⟨by simp, Or.inl ⟨rfl, rfl⟩⟩, by simp [Value.ownBlock], by simp⟩, by simp [Value.ownBlock], ?_⟩
      exact ((Below.refl _ _).alloc (Nat.le_refl _) _).alloc (by simp) _
    refine wp_seq (wp_mono (p72a_walk w _ _ v1 v2 b hok _ _ _ _ _ z' hw) ?_)
    rintro e a W2 ⟨rfl, ⟨z2, rfl⟩, v', hw2⟩
    refine wp_seq (wp_mono (p72b_walk w _ _ v1 v2 v' b hok _ _ _ _ _ z2 hw2) ?_)
    rintro e a W3 ⟨rfl, ⟨z3, rfl⟩, v3, hw3⟩
    exact q72_walk w W3 _ v1 v2 v3 b hok _ _ _ _ _ z3 hw3
  obtain ⟨⟨a1, n1, hv1, hl1, hA1⟩, ⟨a2, n2, hv2, hl2, hA2⟩, hids⟩ := hv
  subst hv1 hv2
  clear hA1 hA2 hids
  have h128 := hok.ts128
  have h32 := hok.st32
  clear hok
  have HFIN := Lib.hid FIN
  clear FIN
  obtain ⟨R, hR⟩ : ∃ R, Code.seq p72a (.seq p72b q72) = R := ⟨_, rfl⟩
  rw [hR] at HFIN
  refine calls_of_wp Tryz.func36 (c := c72) rfl ?_
  simp only [Tryz.ntmps36, List.size_toArray, List.length_cons, List.length_nil, Nat.reduceAdd, Nat.reduceSub, Array.replicate_succ, Array.replicate_zero, List.push_toArray, List.append_toArray, List.nil_append, List.cons_append]
  obtain ⟨Q, hQ⟩ : ∃ Q, bodyPost Tryz.prog Tryz.f36 (SettlePost w b) = Q := ⟨_, rfl⟩
  rw [hQ] at HFIN ⊢
  have HQ := Lib.hid hQ
  clear hQ
  rw [c72_eq, hR]
  have HR := Lib.hid hR
  clear hR
  simp only [c72, Tryz.f36, Option.getD, codeL, codeR]
  go_wp2_with fail
  refine HFIN.out _ _ ⟨undef, undef, undef, undef, undef, ?_⟩ rfl
  apply fr72_act <;> rfl
end Go.Proofs.YtflchbejjofppaaGreatDoor
