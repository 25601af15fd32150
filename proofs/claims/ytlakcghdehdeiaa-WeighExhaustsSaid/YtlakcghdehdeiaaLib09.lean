/- Lemmas on the way to the laws (part 9): Nu Nv Nw Nx Rc Ny Nz Oa Ob Oc -/
import Derived.Test.YtlakcghdehdeiaaLib08
import Derived.Test.YtlakcghdehdeiaaLib04
set_option linter.unusedVariables false
set_option linter.unusedSimpArgs false

/- Walks: settle: the arcs from the source and to the sink. -/
namespace Go.Proofs.Ytlakcghdehdeiaa
open Go Go.Proofs Go.RowKit

noncomputable def p72d : Code := codeL (codeR (codeR q72b))

theorem run_index_exc (l : List Ac) (k : Nat) (hk : k < 36) (w : World) : (Instr.index 120 (.agg (excV l).toArray) (.int .i64 k)).run Try.prog w = .ok (.int .i64 (exc k l)) w := by
  have h1 : Try.prog.underlying 120 = some (.array 36 3) := Try.underlying120
  have h2 := excV_get l k hk
  obtain ⟨i, hi, _, hz, _⟩ := info_parts (show (Try.prog.info? 3).map (fun i => (i.zero, i.size, i.bytes)) = some (some (.int .i64 0), 1, 8) by kernel_rfl)
  have h4 : Try.prog.underlying 3 = some (.int .i64) := Try.underlying3
  simp [Instr.index, run_underlying h1, asIntOf, sizeOf, typeInfo, hi, hz, part, Sem.run_bind, h2]
  intro h; omega
theorem wantOf_bd (E : Nat → Int) (c : Int) (h : ∀ v, -c ≤ E v ∧ E v ≤ c) (k : Nat) : 0 ≤ wantOf E k ∧ wantOf E k ≤ k * c := by
  induction k with
  | zero => simp [wantOf, sumN]
  | succ k ih =>
    have h1 := h k
    unfold wantOf at *
    simp only [sumN, Int.natCast_add, Int.add_mul]
    split <;> omega
theorem wantOf_succ (E : Nat → Int) (k : Nat) : wantOf E (k + 1) = wantOf E k + if 0 < E k then E k else 0 := rfl
theorem extras_len (E : Nat → Int) (S T k : Nat) : (extras E S T k).length ≤ k := by
  induction k with
  | zero => simp [extras]
  | succ k ih =>
    rw [extras_succ, List.length_append]
    have : (extA E S T k).length ≤ 1 := by unfold extA; split <;> (try split) <;> simp
    omega

set_option maxRecDepth 100000 in
set_option maxHeartbeats 1000000 in
theorem p72d_walk (w W : World) (N X : Nat) (v1 v2 v0 : Value) (b : Bk) (hok : OkBk b) (s14 : Value) (z : Nat → Value) (hw : SetW w W N v1 v2 v0 b (arcsOf b)) (hx : Box W X 120 (excV (arcsOf b))) (hX : N + 1 < X) :
    p72d.wp Try.prog (fun (e : Exit) (a : Act) (W' : World) => e = .normal ∧ (∃ z', a = { tmps := (fr72 N (.int .i64 (b.st.length + 2 : Nat)) (.int .i64 (b.st.length + 3 : Nat)) (.pointer (some ⟨X, 0, none⟩)) s14 (.int .i64 (wantOf (fun v => exc v (arcsOf b)) 36)) z').toArray, defers := [] }) ∧
        ∃ v, SetW w W' N v1 v2 v b (arcsOf b ++ extras (fun v => exc v (arcsOf b)) (b.st.length + 2) (b.st.length + 3) 36))
      { tmps := (fr72 N (.int .i64 (b.st.length + 2 : Nat)) (.int .i64 (b.st.length + 3 : Nat)) (.pointer (some ⟨X, 0, none⟩)) s14 (.int .i64 0) z).toArray, defers := [] } W := by
  obtain ⟨Q, hQ⟩ : ∃ Q : Exit → Act → World → Prop, (fun (e : Exit) (a : Act) (W' : World) => e = .normal ∧ (∃ z', a = ({ tmps := (fr72 N (.int .i64 (b.st.length + 2 : Nat)) (.int .i64 (b.st.length + 3 : Nat)) (.pointer (some ⟨X, 0, none⟩)) s14 (.int .i64 (wantOf (fun v => exc v (arcsOf b)) 36)) z').toArray, defers := [] } : Act)) ∧
        ∃ v, SetW w W' N v1 v2 v b (arcsOf b ++ extras (fun v => exc v (arcsOf b)) (b.st.length + 2) (b.st.length + 3) 36)) = Q := ⟨_, rfl⟩
  rw [hQ]
  have HQ := Lib.hid hQ
  clear hQ
  have HW := Lib.hid hw
  have HX := Lib.hid hx
  have hal := arcs_len b
  have h128 := hok.ts128
  have h32 := hok.st32
  have hb : ∀ v, -160000000000 ≤ exc v (arcsOf b) ∧ exc v (arcsOf b) ≤ 160000000000 := fun v => by
    have h := tot_bound (fun a => a.at v) 999999999 (arcsOf b) (fun a ha => by
      have := arcs_props hok ha
      unfold Ac.at
      split <;> split <;> omega)
    have : ((arcsOf b).length : Int) ≤ 160 := by omega
    unfold exc
    omega
  have HB := Lib.hid hb
  have hix := fun k hk => run_index_exc (arcsOf b) k hk
  have HIX := Lib.hid hix
  clear hb hix
  obtain ⟨S, hS⟩ : ∃ S, b.st.length + 2 = S := ⟨_, rfl⟩
  obtain ⟨T, hT⟩ : ∃ T, b.st.length + 3 = T := ⟨_, rfl⟩
  rw [hS, hT] at HQ ⊢
  obtain ⟨l, hl⟩ : ∃ l, arcsOf b = l := ⟨_, rfl⟩
  rw [hl] at hal HB HIX HQ HW HX
  have hll : l.length ≤ 160 := by omega
  have zx := hx.lt
  have HHX := Lib.hid (show W.heap[X]? = some (.cells (excV l).toArray 120 (0, 0)) from hl ▸ hx)
  have HI := Lib.hid (show (Try.prog.info? 120).map (·.size) = some (excV l).toArray.size by rw [List.size_toArray, excV_len]; kernel_rfl)
  have HU := Lib.hid Try.underlying120
  clear hw hx hok hl hal hS hT
  simp only [p72d, q72b, q72, c72, Try.f72, Option.getD, codeL, codeR, fr72]
  apply wp_seq_k; intro K0 hK0
  apply wp_region_lit
  refine wpList_load_row (by rfl) 120 (.tmp 11) (by rfl) X (by rfl) 120 _ _ _ HHX.out HU.out (by rfl) HI.out ?_
  simp only [Act.put, List.setIfInBounds_toArray, List.set_cons_succ, List.set_cons_zero]
  go_wp2_with fail
  go_loopw [15, 124] (fun wt i wr => ∃ (k : Nat) (v : Value), k ≤ 36 ∧ wt = .int .i64 (wantOf (fun v => exc v l) k) ∧ i = .int .i64 k ∧ SetW w wr N v1 v2 v b (l ++ extras (fun v => exc v l) S T k)) (fun _ i _ => 36 - (intOf i).toNat)
  case atStart => exact ⟨0, _, by omega, rfl, rfl, by have h := HW.out; simp only [extras, List.range_zero, List.flatMap_nil, List.append_nil]; exact h⟩
  case round =>
    clear HW HX zx
    obtain ⟨k, v, hk, rfl, rfl, hw⟩ := hrel
    by_cases hlt : k < 36
    · obtain ⟨m1, m2⟩ := HB.out k
      obtain ⟨t1, t2⟩ := wantOf_bd (fun v => exc v l) 160000000000 HB.out k
      have hix := HIX.out k hlt
      have HWS := Lib.hid (show wantOf (fun v => exc v l) (k + 1) = wantOf (fun v => exc v l) k + if 0 < exc k l then exc k l else 0 from rfl)
      have HES := Lib.hid (extras_succ (fun v => exc v l) S T k)
      have HEA := Lib.hid (show extA (fun v => exc v l) S T k = if 0 < exc k l then [⟨S, k, 0, exc k l, 0⟩] else if exc k l < 0 then [⟨k, T, 0, -exc k l, 0⟩] else [] from rfl)
      have hel := extras_len (fun v => exc v l) S T k
      obtain ⟨wt, hwt⟩ : ∃ wt, wantOf (fun v => exc v l) k = wt := ⟨_, rfl⟩
      rw [hwt] at t1 t2 HWS ⊢
      generalize exc k l = m at *
      have dz := hw.box.lt
      have zn := hw.net.box.lt
      have c0 := hw.net.toA.c0
      have fn := hw.net.box.frozen 0
      have n2' := hw.net.ne
      have HWA := Lib.hid hw
      have HT := Lib.hid Try.underlying107
      have HI2 := Lib.hid Try.info106
      have hlk : (l ++ extras (fun v => exc v l) S T k).length ≤ 1000000 := by simp; omega
      have HLK := Lib.hid hlk
      have hbase : N ≤ wr.heap.size := by omega
      have HBASE := Lib.hid hbase
      clear hw hlk hwt
      by_cases h1 : 0 < m
      · go_wp2_with (at_builtin; refine wpList_push Ac.encW 5 40 107 106 _ HT.out HI2.out rfl (by decide) (by decide) Ac.encW_len Ac.encW_one _ ⟨S, k, 0, m, 0⟩ N wr _ rfl v HWA.out.net.own HBASE.out HLK.out rfl _ _ rfl rfl rfl ?_; intro v' w' hown' hg'; obtain ⟨a', cap', rfl⟩ := hown'.shape; have HOW := Lib.hid hown'; have HGR := Lib.hid hg'; have hbn := HWA.out.net.box.grown hg' (Ne.symm n2'); have r0 := hbn.cell 0; have r1 := hbn.frozen 0; have r2 := hbn.lt; simp only [netCells, List.getElem?_cons_zero] at r0; clear hown' hg')
        go_roundw
        case rel =>
          have hp := HWA.out.pushed (Below.refl _ _) HGR.out HOW.out
          rw [show (l ++ extras (fun v => exc v l) S T k ++ [⟨S, k, 0, m, 0⟩] : List Ac).length = l.length + ((extras (fun v => exc v l) S T k).length + 1) by simp, List.append_assoc] at hp
          refine ⟨k + 1, .slice a' (l.length + ((extras (fun v => exc v l) S T k).length + 1)) cap', by omega, by rw [HWS.out, if_pos h1], by go_num, ?_⟩
          rw [HES.out, HEA.out, if_pos h1]
          exact hp
        case measure => simp [intOf]; omega
      by_cases h2 : m < 0
      · go_wp2_with (at_builtin; refine wpList_push Ac.encW 5 40 107 106 _ HT.out HI2.out rfl (by decide) (by decide) Ac.encW_len Ac.encW_one _ ⟨k, T, 0, -m, 0⟩ N wr _ rfl v HWA.out.net.own HBASE.out HLK.out rfl _ _ rfl rfl rfl ?_; intro v' w' hown' hg'; obtain ⟨a', cap', rfl⟩ := hown'.shape; have HOW := Lib.hid hown'; have HGR := Lib.hid hg'; have hbn := HWA.out.net.box.grown hg' (Ne.symm n2'); have r0 := hbn.cell 0; have r1 := hbn.frozen 0; have r2 := hbn.lt; simp only [netCells, List.getElem?_cons_zero] at r0; clear hown' hg')
        go_roundw
        case rel =>
          have hp := HWA.out.pushed (Below.refl _ _) HGR.out HOW.out
          rw [show (l ++ extras (fun v => exc v l) S T k ++ [⟨k, T, 0, -m, 0⟩] : List Ac).length = l.length + ((extras (fun v => exc v l) S T k).length + 1) by simp, List.append_assoc] at hp
          refine ⟨k + 1, .slice a' (l.length + ((extras (fun v => exc v l) S T k).length + 1)) cap', by omega, by rw [HWS.out, if_neg h1, Int.add_zero], by go_num, ?_⟩
          rw [HES.out, HEA.out, if_neg h1, if_pos h2]
          exact hp
        case measure => simp [intOf]; omega
      · go_wp2_with fail
        go_roundw
        case rel =>
          refine ⟨k + 1, v, by omega, by rw [HWS.out, if_neg h1, Int.add_zero], by go_num, ?_⟩
          rw [HES.out, HEA.out, if_neg h1, if_neg h2, List.append_nil]
          exact HWA.out
        case measure => simp [intOf]; omega
    · obtain rfl : k = 36 := by omega
      go_wp2_with fail
      rw [← HQ.out]
      refine ⟨rfl, ?_, v, hw⟩
      apply fr72_act <;> rfl
end Go.Proofs.Ytlakcghdehdeiaa

/- Walks: settle: the network of a book, and whether its flows are an assignment. -/
namespace Go.Proofs.Ytlakcghdehdeiaa
open Go Go.Proofs Go.RowKit

/-- What settle does. -/
def SettlePost (w : World) (b : Bk) (e : Ending) (w' : World) : Prop :=
  ∃ ok nb v l rc, e = .returned (.tuple #[.pointer (some ⟨nb, 0, none⟩), .bool ok]) ∧ NetR w' w.heap.size nb v l b.ts.length b.st.length rc ∧ Below w.heap.size w w' ∧ w.heap.size ≤ nb ∧ shp l = shp (arcsOf b) ∧ Fits l ∧
    (ok = true → Circ (b.st.length + 1) l) ∧ (ok = false → 0 < cutv (fun x => rc.getD x false) (arcsOf b))

/-- The first n elements of a slice. -/
theorem Own.take {α : Type} {f : α → List Value} {sz : Nat} {e : TypeId} {w : World} {base g cap : Nat} {l l' : List α} (hf : ∀ x, (f x).length = sz) (h : Own f sz e w base (.slice (some ⟨g, 0, none⟩) (l ++ l').length cap) (l ++ l')) :
    Own f sz e w base (.slice (some ⟨g, 0, none⟩) l.length cap) l := by
  obtain ⟨h1, h2⟩ := h
  refine ⟨flat_length f sz hf l, ?_⟩
  rcases h2 with ⟨h2, _⟩ | ⟨g', cap', cur, h2, h3, h4, h5, h6, h7, h8⟩
  · cases h2
  · simp only [Value.slice.injEq, Option.some.injEq, Addr.mk.injEq, and_true, true_and] at h2
    obtain ⟨rfl, rfl⟩ := h2
    refine .inr ⟨g, cap, cur, rfl, h3, h4, by simp at h5; omega, h6, h7, ?_⟩
    have e := congrArg (List.take (l.length * sz)) h8
    have hle : l.length * sz ≤ (l ++ l').length * sz := Nat.mul_le_mul_right _ (by simp)
    have hl := flat_length f sz hf l
    rw [List.take_take, Nat.min_eq_left hle, List.flatMap_append, List.take_append_of_le_length (by omega), List.take_of_length_le (l := l.flatMap f) (by omega)] at e
    exact e

theorem NetR.trim {w : World} {B nb g cap : Nat} {l l' : List Ac} {tk pl : Nat} {rc : List Bool} (h : NetR w B nb (.slice (some ⟨g, 0, none⟩) (l ++ l').length cap) (l ++ l') tk pl rc) :
    NetR (w.setCell ⟨nb, 0, none⟩ (.slice (some ⟨g, 0, none⟩) l.length cap)) B nb (.slice (some ⟨g, 0, none⟩) l.length cap) l tk pl rc := by
  have h1 := h.ne
  refine ⟨h.box.set 0 _, (h.own.take Ac.encW_len).other _ ?_, ?_, h.n36⟩
  · intro e; exact h1 e
  · intro e; exact h1 e
theorem NetR.trim0 {w : World} {B nb : Nat} {tk pl : Nat} {rc : List Bool} (h : NetR w B nb (.slice none 0 0) [] tk pl rc) : NetR (w.setCell ⟨nb, 0, none⟩ (.slice none 0 0)) B nb (.slice none 0 0) [] tk pl rc :=
  ⟨h.box.set 0 _, Own.nil _ _ _ _ _, by simp [Value.ownBlock], h.n36⟩

def fr72g (N own : Nat) (want got : Int) (z : Nat → Value) : List Value := [z 0, .pointer (some ⟨N, 0, none⟩), z 2, z 3, .pointer (some ⟨N + 1, 0, none⟩), z 5, z 6, z 7, z 8, z 9, z 10, z 11, z 12, z 13, .int .i64 own, .int .i64 want, z 16, z 17, .int .i64 got, z 19, z 20, z 21, z 22, z 23, z 24, z 25, z 26, z 27, z 28, z 29, z 30, z 31, z 32, z 33, z 34, z 35, z 36, z 37, z 38, z 39, z 40, z 41, z 42, z 43, z 44, z 45, z 46, z 47, z 48, z 49, z 50, z 51, z 52, z 53, z 54, z 55, z 56, z 57, z 58, z 59, z 60, z 61, z 62, z 63, z 64, z 65, z 66, z 67, z 68, z 69, z 70, z 71, z 72, z 73, z 74, z 75, z 76, z 77, z 78, z 79, z 80, z 81, z 82, z 83, z 84, z 85, z 86, z 87, z 88, z 89, z 90, z 91, z 92, z 93, z 94, z 95, z 96, z 97, z 98, z 99, z 100, z 101, z 102, z 103, z 104, z 105, z 106, z 107, z 108, z 109, z 110, z 111, z 112, z 113, z 114, z 115, z 116, z 117, z 118, z 119, z 120, z 121, z 122, z 123, z 124, z 125, z 126, z 127, z 128, z 129, z 130, z 131, z 132, z 133, z 134, z 135, z 136, z 137, z 138, z 139, z 140, z 141, z 142, z 143, z 144, z 145, z 146, z 147, z 148, z 149, z 150, z 151, z 152, z 153, z 154, z 155, z 156, z 157, z 158, z 159, z 160, z 161, z 162, z 163, z 164, z 165, z 166, z 167, z 168, z 169, z 170, z 171, z 172, z 173, z 174, z 175, z 176, z 177, z 178, z 179, z 180, z 181, z 182, z 183, z 184, z 185, z 186, z 187, z 188, z 189, z 190, z 191, z 192]
theorem fr72g_of (N own : Nat) (want got : Int) (L : List Value) (hL : L.length = 193) (h1 : L[1]? = some (.pointer (some ⟨N, 0, none⟩))) (h4 : L[4]? = some (.pointer (some ⟨N + 1, 0, none⟩))) (h14 : L[14]? = some (.int .i64 own)) (h15 : L[15]? = some (.int .i64 want)) (h18 : L[18]? = some (.int .i64 got)) : ∃ z, L = fr72g N own want got z := by
  refine ⟨fun i => L.getD i undef, ?_⟩
  unfold fr72g
  have e := list_range L 193 hL
  have e1 : L.getD 1 undef = .pointer (some ⟨N, 0, none⟩) := by rw [List.getD_eq_getElem?_getD, h1]; rfl
  have e4 : L.getD 4 undef = .pointer (some ⟨N + 1, 0, none⟩) := by rw [List.getD_eq_getElem?_getD, h4]; rfl
  have e14 : L.getD 14 undef = .int .i64 own := by rw [List.getD_eq_getElem?_getD, h14]; rfl
  have e15 : L.getD 15 undef = .int .i64 want := by rw [List.getD_eq_getElem?_getD, h15]; rfl
  have e18 : L.getD 18 undef = .int .i64 got := by rw [List.getD_eq_getElem?_getD, h18]; rfl
  rw [← e1, ← e4, ← e14, ← e15, ← e18]
  exact e
theorem fr72g_act (N own : Nat) (want got : Int) (A : Act) (ds : List Deferred) (hds : A.defers = ds) (hL : A.tmps.size = 193) (h1 : A.tmps[1]? = some (.pointer (some ⟨N, 0, none⟩))) (h4 : A.tmps[4]? = some (.pointer (some ⟨N + 1, 0, none⟩))) (h14 : A.tmps[14]? = some (.int .i64 own)) (h15 : A.tmps[15]? = some (.int .i64 want)) (h18 : A.tmps[18]? = some (.int .i64 got)) : ∃ z, A = { tmps := (fr72g N own want got z).toArray, defers := ds } := by
  obtain ⟨z, e⟩ := fr72g_of N own want got A.tmps.toList (by rw [Array.length_toList]; exact hL) (by rw [Array.getElem?_toList]; exact h1) (by rw [Array.getElem?_toList]; exact h4) (by rw [Array.getElem?_toList]; exact h14) (by rw [Array.getElem?_toList]; exact h15) (by rw [Array.getElem?_toList]; exact h18)
  exact ⟨z, by cases A; subst hds; dsimp only at e ⊢; rw [← e]⟩


noncomputable def e72 : Code := codeR (codeR (codeR q72b))

/-- The arcs that flood works on. -/
def netOf (b : Bk) : List Ac := arcsOf b ++ extras (fun v => exc v (arcsOf b)) (b.st.length + 2) (b.st.length + 3) 36
theorem arcs_ends {b : Bk} (hok : OkBk b) : Ends (b.st.length + 1) (arcsOf b) := fun a ha => by have := arcs_props hok ha; omega
theorem exc_bd {b : Bk} (hok : OkBk b) (v : Nat) : -160000000000 ≤ exc v (arcsOf b) ∧ exc v (arcsOf b) ≤ 160000000000 := by
  have h := tot_bound (fun a => a.at v) 999999999 (arcsOf b) (fun a ha => by
    have := arcs_props hok ha
    unfold Ac.at
    split <;> split <;> omega)
  have h1 := arcs_len b
  have h2 := hok.ts128
  have h3 := hok.st32
  have : ((arcsOf b).length : Int) ≤ 160 := by omega
  unfold exc
  omega
theorem net_facts {b : Bk} (hok : OkBk b) : (netOf b).length ≤ 1000 ∧ SmallS (netOf b) 1000000000000 ∧ Fits (netOf b) ∧ Ends 36 (netOf b) := by
  have h1 := arcs_len b
  have h2 := hok.ts128
  have h3 := hok.st32
  have hE := arcs_ends hok
  refine ⟨?_, ?_, ?_, ?_⟩
  · have := extras_len (fun v => exc v (arcsOf b)) (b.st.length + 2) (b.st.length + 3) 36
    unfold netOf; rw [List.length_append]; omega
  · intro a ha
    rcases List.mem_append.1 ha with ha | ha
    · have := arcs_props hok ha; omega
    · obtain ⟨v, _, ⟨h4, rfl⟩ | ⟨h4, rfl⟩⟩ := extras_mem _ _ _ ha <;> (have := exc_bd hok v; dsimp only at *; omega)
  · intro a ha
    rcases List.mem_append.1 ha with ha | ha
    · have := arcs_props hok ha; omega
    · obtain ⟨v, _, ⟨h4, rfl⟩ | ⟨h4, rfl⟩⟩ := extras_mem _ _ _ ha <;> (dsimp only at *; omega)
  · intro a ha
    rcases List.mem_append.1 ha with ha | ha
    · have := hE a ha; omega
    · obtain ⟨v, _, ⟨h4, rfl⟩ | ⟨h4, rfl⟩⟩ := extras_mem _ _ _ ha <;> (dsimp only at *; omega)

noncomputable def g72 : Code := codeR (codeR e72)
set_option maxRecDepth 100000 in
set_option maxHeartbeats 1000000 in
theorem g72_walk (w W : World) (N : Nat) (v : Value) (b : Bk) (A X : List Ac) (rc : List Bool) (got want : Int) (hl : A.length = (arcsOf b).length) (hX : X.length ≤ 36) (hb5 : A.length ≤ 1000) (hn : NetR W N (N + 1) v (A ++ X) b.ts.length b.st.length rc) (hN : N = w.heap.size) (hb : Below N w W) (z : Nat → Value)
    (hs : shp A = shp (arcsOf b)) (hf : Fits A) (hok : got = want → Circ (b.st.length + 1) A) (hno : got ≠ want → 0 < cutv (fun x => rc.getD x false) (arcsOf b)) :
    g72.wp Try.prog (bodyPost Try.prog Try.f72 (SettlePost w b)) { tmps := (fr72g N (arcsOf b).length want got z).toArray, defers := [] } W := by
  obtain ⟨Q, hQ⟩ : ∃ Q, bodyPost Try.prog Try.f72 (SettlePost w b) = Q := ⟨_, rfl⟩
  rw [hQ]
  have HQ := Lib.hid hQ
  clear hQ
  have zn := hn.box.lt
  have fn := hn.box.frozen 0
  have c0 := hn.toA.c0
  rw [← hl]
  have HL := Lib.hid hl
  clear hl
  have HS := Lib.hid (show shp A = shp (arcsOf b) ∧ Fits A ∧ (got = want → Circ (b.st.length + 1) A) ∧ (got ≠ want → 0 < cutv (fun x => rc.getD x false) (arcsOf b)) from ⟨hs, hf, hok, hno⟩)
  clear hs hf hok hno
  have HN := Lib.hid hn
  have hlen : (A ++ X).length = A.length + X.length := List.length_append
  have HFIN := Lib.hid (show ∀ (v' : Value) (W' : World) (ok : Bool), NetR W' N (N + 1) v' A b.ts.length b.st.length rc → Below N w W' → ok = (got == want) → SettlePost w b (.returned (.tuple #[.pointer (some ⟨N + 1, 0, none⟩), .bool ok])) W' from fun v' W' ok k1 k2 k3 => by
    have h := HS.out
    refine ⟨ok, N + 1, v', A, rc, rfl, by rw [← hN]; exact k1, by rw [← hN]; exact k2, by omega, h.1, h.2.1, fun e => h.2.2.1 ?_, fun e => h.2.2.2 ?_⟩
    · rw [k3] at e; exact eq_of_beq e
    · rw [k3] at e; exact fun e' => by rw [e'] at e; simp at e)
  have hb' := hb.size
  have HBL := Lib.hid hb
  have HNN := Lib.hid hN
  clear hN
  clear hb
  rcases hn.own.2 with ⟨rfl, h0⟩ | ⟨g, cap, cur, rfl, _, _, hcap, hmx, _⟩
  · obtain rfl : A = [] := List.eq_nil_of_length_eq_zero (by omega)
    obtain rfl : X = [] := List.eq_nil_of_length_eq_zero (by omega)
    simp only [List.length_nil]
    clear hn hlen h0
    simp only [g72, e72, q72b, q72, c72, Try.f72, Option.getD, codeL, codeR, fr72g]
    go_wp2_with fail
    rw [← HQ.out]
    go_ret2
    exact HFIN.out _ _ _ HN.out.trim0 (HBL.out.setCell (by dsimp only; omega) _) rfl
  · rw [hlen] at hcap c0
    simp only [g72, e72, q72b, q72, c72, Try.f72, Option.getD, codeL, codeR, fr72g]
    by_cases hc0 : cap = 0
    · subst hc0
      obtain rfl : A = [] := List.eq_nil_of_length_eq_zero (by omega)
      obtain rfl : X = [] := List.eq_nil_of_length_eq_zero (by omega)
      simp only [List.length_nil] at hlen hcap c0 ⊢
      go_wp2_with fail
      rw [← HQ.out]
      go_ret2
      exact HFIN.out _ _ _ HN.out.trim (HBL.out.setCell (by dsimp only; omega) _) rfl
    · go_wp2_with fail
      rw [← HQ.out]
      go_ret2
      exact HFIN.out _ _ _ HN.out.trim (HBL.out.setCell (by dsimp only; omega) _) rfl
end Go.Proofs.Ytlakcghdehdeiaa

/- Walks: settle, whole. -/
namespace Go.Proofs.Ytlakcghdehdeiaa
open Go Go.Proofs Go.RowKit

theorem e72_eq : e72 = .seq (codeL e72) (.seq (codeL (codeR e72)) g72) := rfl

set_option maxRecDepth 100000 in
set_option maxHeartbeats 1000000 in
theorem e72_walk (w W : World) (N : Nat) (v1 v2 v : Value) (b : Bk) (hok : OkBk b) (s11 : Value) (z : Nat → Value) (hw : SetW w W N v1 v2 v b (netOf b)) :
    e72.wp Try.prog (bodyPost Try.prog Try.f72 (SettlePost w b))
      { tmps := (fr72 N (.int .i64 (b.st.length + 2 : Nat)) (.int .i64 (b.st.length + 3 : Nat)) s11 (.int .i64 (arcsOf b).length) (.int .i64 (wantOf (fun v => exc v (arcsOf b)) 36)) z).toArray, defers := [] } W := by
  obtain ⟨f1, f2, f3, f4⟩ := net_facts hok
  have hwb := wantOf_bd (fun v => exc v (arcsOf b)) 160000000000 (exc_bd hok) 36
  have hE := arcs_ends hok
  have h32 := hok.st32
  have hlen := arcs_len b
  have h128 := hok.ts128
  have hxl := extras_len (fun v => exc v (arcsOf b)) (b.st.length + 2) (b.st.length + 3) 36
  obtain ⟨want, hwant⟩ : ∃ x, wantOf (fun v => exc v (arcsOf b)) 36 = x := ⟨_, rfl⟩
  rw [hwant] at hwb ⊢
  -- what settle_ok and settle_cut say
  have FIN : ∀ (A' : Act) (W2 : World) (got : Int) (l' : List Ac) (rc : List Bool), NetR W2 N (N + 1) v l' b.ts.length b.st.length rc → Kept (Mine (N + 1) v) W W2 → Flow (netOf b) l' (b.st.length + 2) (b.st.length + 3) (-1) got → got ≤ want →
      (got ≠ want → Closed (fun x => rc.getD x false) (-1) l' ∧ rc.getD (b.st.length + 2) false = true ∧ rc.getD (b.st.length + 3) false = false) → (∃ z', A' = { tmps := (fr72g N (arcsOf b).length want got z').toArray, defers := [] }) →
      g72.wp Try.prog (bodyPost Try.prog Try.f72 (SettlePost w b)) A' W2 := by
    rintro A' W2 got l' rc hn hk hfl hle hcl ⟨z', rfl⟩
    have hsh : shp l' = shp (arcsOf b ++ extras (fun v => exc v (arcsOf b)) (b.st.length + 1 + 1) (b.st.length + 1 + 2) 36) := hfl.shape
    have hfit := hfl.fits f3
    have hex : ∀ x, exc x l' = exc x (arcsOf b ++ extras (fun v => exc v (arcsOf b)) (b.st.length + 1 + 1) (b.st.length + 1 + 2) 36) + (if b.st.length + 1 + 2 = x then got else 0) - (if b.st.length + 1 + 1 = x then got else 0) := hfl.ex
    obtain ⟨A, X, hAX, hl1, hl2, hl3⟩ := split_shp hsh
    have hX : X.length ≤ 36 := by rw [shp_length hl3]; exact hxl
    subst hAX
    have hbel : Below N w W2 := hw.below.trans (hk.toBelow (by have := hw.box.lt; omega) fun k hk => by
      rcases hk with rfl | hk
      · omega
      · exact (World.ownsRow.lt hw.net.own k hk).1)
    refine g72_walk w W2 N v b A X rc got want hl1 hX (by omega) hn hw.hN hbel z' hl2 (fun a ha => hfit a (List.mem_append_left _ ha)) (fun e => ?_) (fun e => ?_)
    · obtain ⟨A2, X2, e1, e2, e3, e4⟩ := settle_ok hE (by omega) hsh hfit hex (by rw [e, hwant])
      obtain ⟨rfl, _⟩ := List.append_inj e1 (by omega)
      exact e4
    · obtain ⟨c1, c2, c3⟩ := hcl e
      exact settle_cut hE (by omega) hsh hex (by rw [hwant]; omega) c1 c2 c3
  have HFIN := Lib.hid FIN
  clear FIN
  have HAUG := Lib.hid (fun (w1 : World) (l' : List Ac) (rc : List Bool) (got : Int) (hn : NetR w1 N (N + 1) v l' b.ts.length b.st.length rc) (hfl : Flow (netOf b) l' (b.st.length + 2) (b.st.length + 3) (-1) got) (h0 : 0 < want) =>
    aug91 N (N + 1) v l' b.ts.length b.st.length rc (b.st.length + 2) (b.st.length + 3) want (-1) w1 hn (by rw [shp_length hfl.shape]; exact f1) (small_of (f2.shp hfl.shape) (hfl.fits f3)) (shp_ends hfl.shape.symm f4) (by omega) (by omega) (by omega) h0 (by omega))
  have HC := Lib.hid (flood90 N (N + 1) v (netOf b) b.ts.length b.st.length (List.replicate 36 false) (b.st.length + 2) (b.st.length + 3) want (-1) W hw.net f1 f2 f3 f4 (by omega) (by omega) (by omega) hwb.1 (by omega))
  clear f1 f2 f3 f4 hE hw hok hxl
  obtain ⟨S, hS⟩ : ∃ S, b.st.length + 2 = S := ⟨_, rfl⟩
  obtain ⟨T, hT⟩ : ∃ T, b.st.length + 3 = T := ⟨_, rfl⟩
  rw [hS, hT] at HC HAUG HFIN ⊢
  have HWANT := Lib.hid hwant
  clear hwant
  have HS := Lib.hid hS
  clear hS
  have HT := Lib.hid hT
  clear hT
  have HLEN := Lib.hid hlen
  clear hlen
  obtain ⟨Q, hQ⟩ : ∃ Q, bodyPost Try.prog Try.f72 (SettlePost w b) = Q := ⟨_, rfl⟩
  rw [hQ] at HFIN ⊢
  have HQ := Lib.hid hQ
  clear hQ
  rw [e72_eq]
  simp only [e72, q72b, q72, c72, Try.f72, Option.getD, codeL, codeR, fr72]
  go_wp2_with fail
  refine HC.out.mono ?_
  rintro e w1 ⟨got, l', rc', rfl, hn, hk, hfl, hg0, hg1, hor⟩
  have HN := Lib.hid hn
  have HK := Lib.hid hk
  have HFL := Lib.hid hfl
  have HOR := Lib.hid hor
  clear hn hk hfl hor
  by_cases hgw : got = want
  · subst hgw
    go_wp2_with fail
    refine HFIN.out _ w1 got l' rc' HN.out HK.out HFL.out (by omega) (fun h => absurd rfl h) ?_
    apply fr72g_act <;> rfl
  · have hlt : got < want := by omega
    have HGW := Lib.hid hgw
    clear hgw
    go_wp2_with fail
    refine (HAUG.out w1 l' rc' got HN.out HFL.out (by omega)).mono ?_
    rintro e w2 ⟨m, l2, rc2, rfl, hn2, hk2, (⟨rfl, rfl, c1, c2, c3⟩ | ⟨p, p1, p2, p3, p4, p5, rfl⟩)⟩
    · have HN2 := Lib.hid hn2
      have HK2 := Lib.hid hk2
      have HCC := Lib.hid (show Closed (fun x => rc2.getD x false) (-1) l2 ∧ rc2.getD S false = true ∧ rc2.getD T false = false from ⟨c1, c2, c3⟩)
      clear hn2 hk2 c1 c2 c3
      go_wp2_with fail
      refine HFIN.out _ w2 got l2 rc2 HN2.out (HK.out.trans HK2.out) HFL.out (by omega) (fun _ => HCC.out) ?_
      apply fr72g_act <;> rfl
    · exfalso
      obtain ⟨c1, c2, c3⟩ := HOR.out.resolve_left HGW.out
      have := c1.no_way p1 (fun s hs => by have := p3 s hs; omega) c2
      rw [c3] at this
      cases this
end Go.Proofs.Ytlakcghdehdeiaa

/- Walks: settle, whole. -/
namespace Go.Proofs.Ytlakcghdehdeiaa
open Go Go.Proofs Go.RowKit

theorem q72_eq : q72 = .seq (codeL q72) (.seq (codeL (codeR q72)) (.seq l72c q72b)) := rfl
theorem q72b_eq : q72b = .seq (codeL q72b) (.seq (codeL (codeR q72b)) (.seq p72d e72)) := rfl

set_option maxRecDepth 100000 in
set_option maxHeartbeats 1000000 in
theorem q72b_walk (w W : World) (N X : Nat) (v1 v2 v : Value) (b : Bk) (hok : OkBk b) (s14 s15 : Value) (z : Nat → Value) (hw : SetW w W N v1 v2 v b (arcsOf b)) (hx : Box W X 120 (excV (arcsOf b))) (hX : N + 1 < X) :
    q72b.wp Try.prog (bodyPost Try.prog Try.f72 (SettlePost w b))
      { tmps := (fr72 N (.int .i64 (b.st.length + 2 : Nat)) (.int .i64 (b.st.length + 3 : Nat)) (.pointer (some ⟨X, 0, none⟩)) s14 s15 z).toArray, defers := [] } W := by
  have FIN : ∀ (A' : Act), (∃ z', A' = { tmps := (fr72 N (.int .i64 (b.st.length + 2 : Nat)) (.int .i64 (b.st.length + 3 : Nat)) (.pointer (some ⟨X, 0, none⟩)) (.int .i64 (arcsOf b).length) (.int .i64 0) z').toArray, defers := [] }) → (Code.seq p72d e72).wp Try.prog (bodyPost Try.prog Try.f72 (SettlePost w b)) A' W := by
    rintro A' ⟨z', rfl⟩
    refine wp_seq (wp_mono (p72d_walk w W N X v1 v2 v b hok _ z' hw hx hX) ?_)
    rintro e a W' ⟨rfl, ⟨z2, rfl⟩, v', hw'⟩
    exact e72_walk w W' N v1 v2 v' b hok _ z2 hw'
  have c0 := hw.net.toA.c0
  have zn := hw.net.box.lt
  have f0 := hw.net.box.frozen 0
  obtain ⟨a', cap', rfl⟩ := hw.net.own.shape
  have hlen := arcs_len b
  have h32 := hok.st32
  have h128 := hok.ts128
  obtain ⟨m, hm⟩ : ∃ m, (arcsOf b).length = m := ⟨_, rfl⟩
  rw [hm] at hlen c0 FIN
  have HLEN := Lib.hid hlen
  clear hlen
  clear hm hw hx hok
  have HFIN := Lib.hid FIN
  clear FIN
  obtain ⟨Q, hQ⟩ : ∃ Q, bodyPost Try.prog Try.f72 (SettlePost w b) = Q := ⟨_, rfl⟩
  rw [hQ] at HFIN ⊢
  have HQ := Lib.hid hQ
  clear hQ
  rw [q72b_eq]
  obtain ⟨R, hR⟩ : ∃ R, Code.seq p72d e72 = R := ⟨_, rfl⟩
  rw [hR] at HFIN ⊢
  have HR := Lib.hid hR
  clear hR
  obtain ⟨S, hS⟩ : ∃ S, b.st.length + 2 = S := ⟨_, rfl⟩
  obtain ⟨T, hT⟩ : ∃ T, b.st.length + 3 = T := ⟨_, rfl⟩
  rw [hS, hT] at HFIN ⊢
  have HS := Lib.hid hS
  clear hS
  have HT := Lib.hid hT
  clear hT
  simp only [q72b, q72, c72, Try.f72, Option.getD, codeL, codeR, fr72]
  go_wp2_with fail
  refine HFIN.out _ ?_
  apply fr72_act <;> rfl

theorem excV_nil : excV [] = ints (List.replicate 36 0) := by kernel_rfl

set_option maxRecDepth 100000 in
set_option maxHeartbeats 1000000 in
theorem q72_walk (w W : World) (N : Nat) (v1 v2 v : Value) (b : Bk) (hok : OkBk b) (s9 s10 s11 s14 s15 : Value) (z : Nat → Value) (hw : SetW w W N v1 v2 v b (arcsOf b)) :
    q72.wp Try.prog (bodyPost Try.prog Try.f72 (SettlePost w b)) { tmps := (fr72 N s9 s10 s11 s14 s15 z).toArray, defers := [] } W := by
  have FIN : ∀ (A' : Act) (W' : World), (∃ z', A' = { tmps := (fr72 N (.int .i64 (b.st.length + 2 : Nat)) (.int .i64 (b.st.length + 3 : Nat)) (.pointer (some ⟨W.heap.size, 0, none⟩)) s14 s15 z').toArray, defers := [] }) →
      (∃ nq, W' = (W.drewN nq).alloc (.cells (ints (List.replicate 36 0)).toArray 120)) → (Code.seq l72c q72b).wp Try.prog (bodyPost Try.prog Try.f72 (SettlePost w b)) A' W' := by
    rintro A' W' ⟨z', rfl⟩ ⟨nq, rfl⟩
    have hX : N + 1 < W.heap.size := hw.net.box.lt
    have hw1 := hw.later ((below_drewN (Below.refl _ _) nq).alloc (Nat.le_refl _) (.cells (ints (List.replicate 36 0)).toArray 120))
    have hx1 := Box.new (W.drewN nq) (ints (List.replicate 36 0)).toArray 120
    refine wp_seq (wp_mono (l72c_walk w _ N W.heap.size v1 v2 v b hok _ _ _ _ z' hw1 (by rw [excV_nil]; exact hx1) hX) ?_)
    rintro e a W2 ⟨rfl, ⟨z2, rfl⟩, hw2, hx2⟩
    exact q72b_walk w W2 N _ v1 v2 v b hok _ _ z2 hw2 hx2 hX
  have c2 := hw.net.box.cell 2
  have zn := hw.net.box.lt
  simp only [netCells, List.getElem?_cons_zero, List.getElem?_cons_succ] at c2
  have h32 := hok.st32
  have f2 := hw.net.box.frozen 2
  clear hw hok
  have HFIN := Lib.hid FIN
  clear FIN
  obtain ⟨Q, hQ⟩ : ∃ Q, bodyPost Try.prog Try.f72 (SettlePost w b) = Q := ⟨_, rfl⟩
  rw [hQ] at HFIN ⊢
  have HQ := Lib.hid hQ
  clear hQ
  rw [q72_eq]
  obtain ⟨R, hR⟩ : ∃ R, Code.seq l72c q72b = R := ⟨_, rfl⟩
  rw [hR] at HFIN ⊢
  have HR := Lib.hid hR
  clear hR
  simp only [q72, c72, Try.f72, Option.getD, codeL, codeR, fr72]
  go_wp2_with fail
  go_quiet (fail)
  go_wp2_with fail
  refine HFIN.out _ _ ?_ ⟨nq, rfl⟩
  apply fr72_act <;> rfl

set_option maxRecDepth 100000 in
set_option maxHeartbeats 1000000 in
theorem settle72 (w : World) (v1 v2 : Value) (b : Bk) (hok : OkBk b) (hv : BkR w w.heap.size v1 v2 b) :
    Calls Try.prog 72 #[.agg #[v1, v2]] w (SettlePost w b) := by
  have FIN : ∀ (A' : Act) (W' : World), (∃ s9 s10 s11 s14 s15 z', A' = { tmps := (fr72 w.heap.size s9 s10 s11 s14 s15 z').toArray, defers := [] }) →
      W' = (w.alloc (.cells #[v1, v2] 38)).alloc (.cells (netCells (.slice none 0 0) b.ts.length b.st.length (List.replicate 36 false)).toArray 110) → (Code.seq p72a (.seq p72b q72)).wp Try.prog (bodyPost Try.prog Try.f72 (SettlePost w b)) A' W' := by
    rintro A' W' ⟨s9, s10, s11, s14, s15, z', rfl⟩ rfl
    have hw : SetW w ((w.alloc (.cells #[v1, v2] 38)).alloc (.cells (netCells (.slice none 0 0) b.ts.length b.st.length (List.replicate 36 false)).toArray 110)) w.heap.size v1 v2 (.slice none 0 0) b [] := by
      have hx1 := Box.new w #[v1, v2] 38
      have hx2 := Box.new (w.alloc (.cells #[v1, v2] 38)) (netCells (.slice none 0 0) b.ts.length b.st.length (List.replicate 36 false)).toArray 110
      have hs : (w.alloc (.cells #[v1, v2] 38)).heap.size = w.heap.size + 1 := by simp
      rw [hs] at hx2
      refine ⟨rfl, hv, hx1.alloc _, ⟨by simpa using hx2, ⟨by simp, Or.inl ⟨rfl, rfl⟩⟩, by simp [Value.ownBlock], by simp⟩, by simp [Value.ownBlock], ?_⟩
      exact ((Below.refl _ _).alloc (Nat.le_refl _) _).alloc (by simp) _
    refine wp_seq (wp_mono (p72a_walk w _ _ v1 v2 b hok _ _ _ _ _ z' hw) ?_)
    rintro e a W2 ⟨rfl, ⟨z2, rfl⟩, v', hw2⟩
    refine wp_seq (wp_mono (p72b_walk w _ _ v1 v2 v' b hok _ _ _ _ _ z2 hw2) ?_)
    rintro e a W3 ⟨rfl, ⟨z3, rfl⟩, v3, hw3⟩
    exact q72_walk w W3 _ v1 v2 v3 b hok _ _ _ _ _ z3 hw3
  obtain ⟨⟨a1, n1, hv1, hl1, hA1⟩, ⟨a2, n2, hv2, hl2, hA2⟩, hids⟩ := hv
  subst hv1 hv2
  clear hA1 hA2 hids
  have h128 := hok.ts128
  have h32 := hok.st32
  clear hok
  have HFIN := Lib.hid FIN
  clear FIN
  obtain ⟨R, hR⟩ : ∃ R, Code.seq p72a (.seq p72b q72) = R := ⟨_, rfl⟩
  rw [hR] at HFIN
  refine calls_of_wp Try.func72 (c := c72) rfl ?_
  simp only [Try.ntmps72, List.size_toArray, List.length_cons, List.length_nil, Nat.reduceAdd, Nat.reduceSub, Array.replicate_succ, Array.replicate_zero, List.push_toArray, List.append_toArray, List.nil_append, List.cons_append]
  obtain ⟨Q, hQ⟩ : ∃ Q, bodyPost Try.prog Try.f72 (SettlePost w b) = Q := ⟨_, rfl⟩
  rw [hQ] at HFIN ⊢
  have HQ := Lib.hid hQ
  clear hQ
  rw [c72_eq, hR]
  have HR := Lib.hid hR
  clear hR
  simp only [c72, Try.f72, Option.getD, codeL, codeR]
  go_wp2_with fail
  refine HFIN.out _ _ ⟨undef, undef, undef, undef, undef, ?_⟩ rfl
  apply fr72_act <;> rfl

end Go.Proofs.Ytlakcghdehdeiaa

/- A region that draws its order, of whose head operations one calls a function that writes memory; the others only read, and read the same before and after the call. -/
namespace Go
open Go.RowKit
section
structure CallFlow (ops : Array Oper) (n b : Nat) (ob : Oper) (W : World) (a0 A : Act) (D : Value → World → Prop) (listed : Array Bool) (a : Act) (w : World) (v : Value) : Prop where
  inv : HeadInv .any ops n listed
  size : a.tmps.size = a0.tmps.size
  defers : a.defers = a0.defers
  slot : ∀ j o t, j < n → ops[j]? = some o → o.dst = some t → j ≠ b → a.tmps[t]? = if listed.getD j false = true then A.tmps[t]? else a0.tmps[t]?
  slotb : ∀ t, ob.dst = some t → a.tmps[t]? = if listed.getD b false = true then a0.tmps[t]?.map (fun _ => v) else a0.tmps[t]?
  other : ∀ t, (∀ j o, j < n → ops[j]? = some o → o.dst ≠ some t) → a.tmps[t]? = a0.tmps[t]?
  wld : (listed.getD b false = true → D v w) ∧ (listed.getD b false = false → w = W)

variable {P : Program} {l : List Oper} {n b : Nat} {ob : Oper} {W : World} {a0 A : Act} {D : Value → World → Prop} {fn : FuncId} {args : Array Value} {Q : Exit → Act → World → Prop}

theorem callflow_run (hB : Region.flowB l.toArray n b = true) (hob : l[b]? = some ob)
    (hq : ∀ w, (w = W ∨ ∃ v, D v w) → wpQuiet P l.toArray (fun w' => w' = w) (fun a' => a' = A) (headsOf l n b) a0)
    (hb : (execOp A.eval ob).run P W = .ok (.enter fn args) W) (hc : Calls P fn args W fun e w' => ∃ v, e = .returned v ∧ D v w')
    (ht : ∀ v w, D v w → wpList P l.toArray Q (l.drop n) (A.put ob.dst v) w) :
    ∀ (f : Nat) (U : List Nat) (listed : Array Bool) (a : Act) (w : World) (v : Value), U.length = f → U.Nodup → (∀ i, i ∈ U ↔ i < n ∧ listed.getD i false = false) →
      CallFlow l.toArray n b ob W a0 A D listed a w v → wpAny P .any l.toArray Q (f + (l.toArray.size - n)) listed a w := by
  simp only [Region.flowB, Bool.and_eq_true, decide_eq_true_eq, List.all_eq_true, List.mem_range] at hB
  obtain ⟨⟨⟨⟨⟨⟨⟨⟨⟨hsel, hn⟩, hbn⟩, hsink⟩, hchain⟩, hseq⟩, hedge⟩, hpair⟩, hguard⟩, hblind⟩ := hB
  have hn' : n ≤ l.length := by have h := hn; rw [List.size_toArray] at h; omega
  have hsz : l.toArray.size = l.length := by simp
  have hget : ∀ i : Nat, l.toArray[i]? = l[i]? := fun i => by simp
  have hselect := Region.noSelect_spec hsel
  have hpw : (headsOf l n b).Pairwise (fun o o' => ∀ t, o.dst = some t → o'.dst ≠ some t) := by
    rw [List.pairwise_iff_getElem]
    intro i j hi hj hij t ht
    obtain ⟨i', h1, h2, h3, h4⟩ := headsOf_from hbn hn' (List.getElem?_eq_getElem hi)
    obtain ⟨j', k1, k2, k3, k4⟩ := headsOf_from hbn hn' (List.getElem?_eq_getElem hj)
    exact Region.flowPair_dst (hpair i' h1 j' k1) (by rw [hget]; exact h3) (by rw [hget]; exact k3) (fun e => by subst e; omega) ht
  have hA := quiet_text _ _ (hq W (.inl rfl)) hpw
  have hAo : ∀ t, (∀ j o, j < n → l.toArray[j]? = some o → j ≠ b → o.dst ≠ some t) → A.tmps[t]? = a0.tmps[t]? := fun t h => hA.1 t fun o ho => by
    obtain ⟨q, hq'⟩ := List.mem_iff_getElem?.1 ho
    obtain ⟨j, h1, h2, h3, _⟩ := headsOf_from hbn hn' hq'
    exact h j o h1 (by rw [hget]; exact h3) h2
  have hAs := hA.2.1
  have hAd := hA.2.2.1
  have hobA : l.toArray[b]? = some ob := by rw [hget]; exact hob
  intro f
  induction f with
  | zero =>
    intro U listed a w vb hU _ hUm hF
    obtain rfl : U = [] := List.eq_nil_of_length_eq_zero hU
    have hall : ∀ i, i < n → listed.getD i false = true := fun i hi => by
      cases h : listed.getD i false with
      | true => rfl
      | false => have := (hUm i).2 ⟨hi, h⟩; simp at this
    have hl : listed = Region.marked l.toArray.size n := by
      apply Array.ext_getElem?
      intro i
      by_cases hi : i < l.toArray.size
      · have hil : i < listed.size := by rw [hF.inv.size]; exact hi
        have e2 : (Region.marked l.toArray.size n)[i]? = some (decide (i < n)) := by
          rw [List.size_toArray] at hi
          unfold Region.marked
          simp [hi]
        rw [e2, Array.getElem?_eq_getElem hil]
        by_cases hin : i < n
        · have := hall i hin
          simp [hil] at this
          simp [this, hin]
        · have := hF.inv.tail i (by omega) hi
          simp [hil] at this
          simp [this, hin]
      · rw [Array.getElem?_eq_none (by rw [hF.inv.size]; omega), Array.getElem?_eq_none (by rw [List.size_toArray] at hi; unfold Region.marked; simp; omega)]
    have hbt := hall b hbn
    have ha : a = A.put ob.dst vb := by
      have htm : a.tmps = (A.put ob.dst vb).tmps := by
        apply Array.ext_getElem?
        intro t
        rw [put_get]
        by_cases hbd : ob.dst = some t
        · rw [if_pos hbd, hF.slotb t hbd, if_pos hbt]
          by_cases h : t < a0.tmps.size
          · rw [Array.getElem?_eq_getElem h, Array.getElem?_eq_getElem (by rw [hAs]; exact h)]; rfl
          · rw [Array.getElem?_eq_none (by omega), Array.getElem?_eq_none (by rw [hAs]; omega)] <;> rfl
        · rw [if_neg hbd]
          by_cases h : ∃ j o, j < n ∧ l.toArray[j]? = some o ∧ o.dst = some t
          · obtain ⟨j, o, h1, h2, h3⟩ := h
            have hjb : j ≠ b := fun e => by subst e; rw [hobA] at h2; cases h2; exact hbd h3
            rw [hF.slot j o t h1 h2 h3 hjb, if_pos (hall j h1)]
          · have h' : ∀ j o, j < n → l.toArray[j]? = some o → o.dst ≠ some t := fun j o h1 h2 h3 => h ⟨j, o, h1, h2, h3⟩
            rw [hF.other t h', hAo t fun j o h1 h2 _ => h' j o h1 h2]
      have hd : a.defers = (A.put ob.dst vb).defers := by rw [put_defers, hAd, hF.defers]
      cases a; simp only at htm hd; cases hX : A.put ob.dst vb; rw [hX] at htm hd; simp only at htm hd; rw [htm, hd]
    rw [ha]
    have hdl : (l.drop n).length = l.toArray.size - n := by simp
    have := wpAny_of_seq (md := .any) (Q' := Q) (ops := l.toArray) (l.drop n) n listed (A.put ob.dst vb) w (fun j => by simp [List.getElem?_drop]) (by rw [hdl, hl]; exact hseq) (ht vb w (hF.wld.1 hbt))
    rw [hdl] at this
    rwa [Nat.zero_add]
  | succ f ih =>
    intro U listed a w vb hU hnd hUm hF
    obtain ⟨i0, hi0, hleast⟩ := exists_least U (fun e => by rw [e] at hU; simp at hU)
    obtain ⟨hi0n, hi0u⟩ := (hUm i0).1 hi0
    have hin : ∀ i, i < n → i < listed.size := fun i hi => by rw [hF.inv.size]; omega
    have hready : i0 ∈ Region.ready .any l.toArray listed := by
      have hlt : i0 < l.toArray.size := by omega
      refine mem_ready.2 ⟨getD_in (hin _ hi0n) hi0u, l.toArray[i0], Array.getElem?_eq_getElem hlt, fun e he hbd => ?_⟩
      have h1 := hedge i0 hi0n
      rw [Array.getElem?_eq_getElem hlt] at h1
      simp only [Array.all_eq_true_iff_forall_mem] at h1
      have h2 := h1 e he
      simp only [hbd, Bool.not_true, Bool.false_or, decide_eq_true_eq] at h2
      cases h : listed.getD e.on false with
      | true => rfl
      | false =>
        have := hleast e.on ((hUm e.on).2 ⟨by omega, h⟩)
        omega
    rw [show f + 1 + (l.toArray.size - n) = (f + (l.toArray.size - n)) + 1 by omega]
    refine ⟨fun h => (by rw [h] at hready; cases hready), fun i hi => ?_⟩
    obtain ⟨hiu, o, ho, hdep⟩ := mem_ready.1 hi
    have hilt : i < n := Nat.lt_of_not_le fun h => tail_waits hsink hchain hn hF.inv _ i0 rfl hi0n (getD_in (hin _ hi0n) hi0u) i h hi
    have hiU : i ∈ U := (hUm i).2 ⟨hilt, getD_both hiu⟩
    have hinv := hF.inv.set hi hilt
    have hlist : ∀ j, (listed.setIfInBounds i true).getD j false = if j = i then true else listed.getD j false := fun j => by
      by_cases h : j = i
      · subst h; rw [if_pos rfl]; simp [hin j hilt]
      · rw [if_neg h, getD_set_ne false (Ne.symm h)]
    have hUm' : ∀ j, j ∈ U.erase i ↔ j < n ∧ (listed.setIfInBounds i true).getD j false = false := fun j => by
      rw [hnd.mem_erase_iff, hUm j, hlist j]
      by_cases h : j = i
      · simp [h]
      · simp [h]
    have hlen' : (U.erase i).length = f := by rw [List.length_erase_of_mem hiU]; omega
    have hnd' := hnd.erase i
    -- what an operation looks at is as in the end
    have hseen : ∀ t ∈ o.looksAt l.toArray, ∀ j oj, j < n → l.toArray[j]? = some oj → oj.dst = some t → i ≠ j ∧ j < i ∧ listed.getD j false = true := by
      intro t ht j oj hj hoj hd
      have hne : i ≠ j := fun e => by
        subst e
        rw [ho] at hoj; cases hoj
        exact Region.flowPair_self (hpair i hilt i hilt) ho hd ht
      have h1 := Region.flowPair_looks (hpair i hilt j hj) ho hoj hne hd ht
      obtain ⟨o', ho', e, he, hbd, hon⟩ := Region.waitsFor_spec h1.2
      rw [ho] at ho'; cases ho'
      have := hdep e he hbd
      rw [hon] at this
      exact ⟨hne, h1.1, this⟩
    by_cases hib : i = b
    · subst hib
      rw [hobA] at ho; cases ho
      have hg : ob.guard = none := by rw [hobA] at hguard; simpa using hguard
      obtain rfl : w = W := hF.wld.2 (getD_both hiu)
      have hex : execOp a.eval ob = execOp A.eval ob := (seen_alike (ops := l.toArray) (fun cs bb => hselect i ob cs bb hobA) fun t htl => by
        by_cases h : ∃ j o, j < n ∧ l.toArray[j]? = some o ∧ o.dst = some t
        · obtain ⟨j, oj, h1, h2, h3⟩ := h
          obtain ⟨k1, k2, k3⟩ := hseen t htl j oj h1 h2 h3
          rw [hF.slot j oj t h1 h2 h3 (Ne.symm k1), if_pos k3]
        · have h' : ∀ j o, j < n → l.toArray[j]? = some o → o.dst ≠ some t := fun j o h1 h2 h3 => h ⟨j, o, h1, h2, h3⟩
          rw [hF.other t h', hAo t fun j o h1 h2 _ => h' j o h1 h2]).1
      unfold wpOp
      simp only [hobA]
      rw [if_pos (by simp [Region.wanted, hg])]
      refine .inl ?_
      unfold Oper.wp
      rw [hex, hb, Oper.upon_enter]
      refine hc.mono ?_
      rintro _ w' ⟨v', rfl, hD⟩
      refine ih (U.erase i) _ _ _ v' hlen' hnd' hUm' ⟨hinv, by rw [put_size, hF.size], by rw [put_defers, hF.defers], ?_, ?_, ?_, fun _ => hD, fun h => (by rw [hlist i, if_pos rfl] at h; cases h)⟩
      · intro j oj t hj hoj hd hjb
        have hne : ob.dst ≠ some t := fun h => Region.flowPair_dst (hpair i hilt j hj) hobA hoj (Ne.symm hjb) h hd
        rw [put_get, if_neg hne, hF.slot j oj t hj hoj hd hjb, hlist j, if_neg hjb]
      · intro t hd
        rw [put_get, if_pos hd, hlist i, if_pos rfl, if_pos rfl, hF.slotb t hd, if_neg (by rw [getD_both hiu]; simp)]
      · intro t h
        rw [put_get, if_neg (h i ob hilt hobA), hF.other t h]
    · have hcl : w = W ∨ ∃ v, D v w := by
        cases h : listed.getD b false with
        | true => exact .inr ⟨vb, hF.wld.1 h⟩
        | false => exact .inl (hF.wld.2 h)
      have hpos := headsOf_get hbn hn' hilt hib
      have hol : l[i]? = some o := by rw [← hget]; exact ho
      rw [hol] at hpos
      have hsplit : headsOf l n b = (headsOf l n b).take (posOf b i) ++ o :: (headsOf l n b).drop (posOf b i + 1) := by
        have hlt := (List.getElem?_eq_some_iff.1 hpos).1
        have e := (List.getElem?_eq_some_iff.1 hpos).2
        rw [← e, ← List.drop_eq_getElem_cons hlt, List.take_append_drop]
      obtain ⟨_, _, _, htext⟩ := quiet_text _ _ (hq w hcl) hpw
      obtain ⟨ai, v, hy, t1, t2, t3⟩ := htext _ o _ hsplit
      have hal := seen_alike (ops := l.toArray) (o := o) (a := a) (a' := ai) (fun cs bb => hselect i o cs bb ho) fun t htl => by
        by_cases h : ∃ j o, j < n ∧ l.toArray[j]? = some o ∧ o.dst = some t
        · obtain ⟨j, oj, h1, h2, h3⟩ := h
          obtain ⟨k1, k2, k3⟩ := hseen t htl j oj h1 h2 h3
          by_cases hjb : j = b
          · -- nobody else looks at b's yield
            subst hjb
            have h4 := hblind i hilt
            simp only [Bool.or_eq_true, beq_iff_eq, hib, false_or] at h4
            exact absurd htl (Region.blindTo_spec h4 ho h2 h3)
          · rw [hF.slot j oj t h1 h2 h3 hjb, if_pos k3]
            refine (t1 t ⟨oj, ?_, h3⟩).symm
            have hjp := headsOf_get hbn hn' h1 hjb
            rw [← hget, h2] at hjp
            refine List.mem_of_getElem? (i := posOf b j) ?_
            rw [List.getElem?_take, if_pos (by unfold posOf; split <;> split <;> omega)]
            exact hjp
        · have h' : ∀ j o, j < n → l.toArray[j]? = some o → o.dst ≠ some t := fun j o h1 h2 h3 => h ⟨j, o, h1, h2, h3⟩
          rw [hF.other t h']
          refine (t2 t fun p hp => ?_).symm
          obtain ⟨q, hq'⟩ := List.mem_iff_getElem?.1 (List.mem_of_mem_take hp)
          obtain ⟨j, h1, h2, h3, _⟩ := headsOf_from hbn hn' hq'
          exact h' j p h1 (by rw [hget]; exact h3)
      have hy' := hy.of_same hal.1 hal.2
      have hqo := hy'.qOp (K := fun a' => a' = a.put o.dst v) ho rfl
      refine wpOp_of_qOp (C := fun w' => w' = w) rfl ?_ hqo
      rintro a' w' rfl rfl
      refine ih (U.erase i) _ _ _ vb hlen' hnd' hUm' ⟨hinv, by rw [put_size, hF.size], by rw [put_defers, hF.defers], ?_, ?_, ?_, ?_⟩
      · intro j oj t hj hoj hd hjb
        rw [put_get, hlist j]
        by_cases hji : j = i
        · subst hji
          rw [ho] at hoj; cases hoj
          rw [if_pos hd, if_pos rfl, if_pos rfl, hF.slot j o t hj ho hd hjb, if_neg (by rw [getD_both hiu]; simp), t3 t hd]
        · have hne : o.dst ≠ some t := fun h => Region.flowPair_dst (hpair i hilt j hj) ho hoj (Ne.symm hji) h hd
          rw [if_neg hne, if_neg hji, hF.slot j oj t hj hoj hd hjb]
      · intro t hd
        have hne : o.dst ≠ some t := fun h => Region.flowPair_dst (hpair i hilt b hbn) ho hobA hib h hd
        rw [put_get, if_neg hne, hF.slotb t hd, hlist b, if_neg (Ne.symm hib)]
      · intro t h
        rw [put_get, if_neg (h i o hilt ho), hF.other t h]
      · rw [hlist b, if_neg (Ne.symm hib)]
        exact hF.wld

/-- The rule: one head operation is a call that writes; the heads but it read alike in every world of the class. -/
theorem wp_region_callflow {id : Nat} (n b : Nat) (ob : Oper) (fn : FuncId) (D : Value → World → Prop) (hm : P.follows .mixedOrders = true) (hB : Region.flowB l.toArray n b = true) (hob : l[b]? = some ob)
    (hh : ∃ A, (∀ w, (w = { W with drawn := W.drawn + 1 } ∨ ∃ v, D v w) → wpQuiet P l.toArray (fun w' => w' = w) (fun a' => a' = A) (headsOf l n b) a0) ∧
      ∃ args, (execOp A.eval ob).run P { W with drawn := W.drawn + 1 } = .ok (.enter fn args) { W with drawn := W.drawn + 1 } ∧ (Calls P fn args { W with drawn := W.drawn + 1 } fun e w' => ∃ v, e = .returned v ∧ D v w') ∧
        ∀ v w, D v w → wpList P l.toArray Q (l.drop n) (A.put ob.dst v) w) :
    (Code.region id l.toArray true).wp P Q a0 W := by
  obtain ⟨A, hq, args, hb, hc, ht⟩ := hh
  refine wp_region_any hm ?_
  have hB' := hB
  simp only [Region.flowB, Bool.and_eq_true, decide_eq_true_eq] at hB'
  have hn := hB'.1.1.1.1.1.1.1.1.2
  have inv0 : HeadInv .any l.toArray n (Array.replicate l.toArray.size false) :=
    ⟨by simp, fun j oj _ hl => (by rw [getD_replicate_false] at hl; cases hl), fun t _ ht => getD_in (by simpa using ht) (getD_replicate_false _ _)⟩
  have h := callflow_run (W := { W with drawn := W.drawn + 1 }) (a0 := a0) (A := A) (D := D) (Q := Q) hB hob hq hb hc ht n (List.range n) (Array.replicate l.toArray.size false) a0 _ undef (by simp) List.nodup_range (fun i => by rw [List.mem_range]; exact ⟨fun h => ⟨h, getD_replicate_false _ _⟩, fun h => h.1⟩)
    ⟨inv0, rfl, rfl, fun j o t _ _ _ _ => by rw [getD_replicate_false]; rfl, fun t _ => by rw [getD_replicate_false]; rfl, fun _ _ => rfl, fun h => (by rw [getD_replicate_false] at h; cases h), fun _ => rfl⟩
  rwa [show n + (l.toArray.size - n) = l.toArray.size by omega] at h

/-- A world in which some blocks' cells are as in W. -/
structure Keep (W : World) (S : Nat → Nat → Prop) where
  w : World
  cells : ∀ b o, S b o → w.cell? ⟨b, o, none⟩ = W.cell? ⟨b, o, none⟩
/-- That world alone. -/
structure Keep1 {W : World} {S : Nat → Nat → Prop} (X : Keep W S) where
  w : World
  h : w = X.w
instance {W : World} {S : Nat → Nat → Prop} (X : Keep W S) : Nonempty (Keep1 X) := ⟨⟨X.w, rfl⟩⟩
theorem Keep1.cell {W : World} {S : Nat → Nat → Prop} {X : Keep W S} (Y : Keep1 X) (b o : Nat) (h : S b o) : Y.w.cell? ⟨b, o, none⟩ = W.cell? ⟨b, o, none⟩ := by rw [Y.h]; exact X.cells b o h
attribute [go_sem] Keep1.cell
theorem keep1_class {W : World} {S : Nat → Nat → Prop} (X : Keep W S) : (fun w' => ∃ Y : Keep1 X, w' = Y.w) = (fun w' => w' = X.w) := funext fun w' => propext ⟨fun ⟨Y, h⟩ => h.trans Y.h, fun h => ⟨⟨X.w, rfl⟩, h⟩⟩
end
end Go

/- More, or less, through one arc: plainly. -/
namespace Go.Proofs.Ytlakcghdehdeiaa
open Go Go.Proofs Go.RowKit

/-- What 'push' makes of the arcs. -/
structure PushR (l l' : List Ac) (i : Nat) (high : Bool) : Prop where
  shape : shp l' = shp l
  fits : Fits l'
  bal : ∀ x, exc x l' = exc x l
  ext : ∀ n, Ends n l → Circ n l → ∀ l2, shp l2 = shp l → Circ n l2 → ∀ a a2, l'[i]? = some a → l2[i]? = some a2 → if high then a2.fl ≤ a.fl else a.fl ≤ a2.fl

theorem PushR.circ {l l' : List Ac} {i n : Nat} {high : Bool} (h : PushR l l' i high) (hc : Circ n l) : Circ n l' := ⟨h.fits, fun v hv => (h.bal v).trans (hc.bal v hv)⟩

theorem closed_congr {R : Nat → Bool} {i : Nat} {l l' : List Ac} (hl : l.length = l'.length) (h : ∀ j, j ≠ i → l'[j]? = l[j]?) (hC : Closed R i l) : Closed R i l' := fun j hj hne => by
  have h1 := h j (by omega)
  rw [List.getElem?_eq_getElem hj, List.getElem?_eq_getElem (by omega : j < l.length)] at h1
  rw [Option.some.inj h1]
  exact hC j (by omega) hne

/-- The arcs after the flood around arc i and the store into it. -/
theorem pushR_of {l l1 : List Ac} {i : Nat} {high : Bool} {m most : Int} {R : Nat → Bool} {a : Ac} (hi : l[i]? = some a) (hf : Fits l)
    (hfl : Flow l l1 (if high then a.to else a.fr) (if high then a.fr else a.to) i m) (hmost : most = if high then a.hi - a.fl else a.fl - a.lo) (h0 : 0 ≤ m) (h1 : m ≤ most)
    (hor : m = most ∨ (Closed R i l1 ∧ R (if high then a.to else a.fr) = true ∧ R (if high then a.fr else a.to) = false)) : PushR l (bump l1 (i, high) m) i high := by
  have hl1i : l1[i]? = some a := (hfl.wo i rfl).trans hi
  have hilt : i < l1.length := (List.getElem?_eq_some_iff.1 hl1i).1
  have hb : (bump l1 (i, high) m)[i]? = some { a with fl := if high then a.fl + m else a.fl - m } := by
    unfold bump; rw [List.getElem?_modify, hl1i]; simp
  have hsh : shp (bump l1 (i, high) m) = shp l := (shp_bump _ _ _).trans hfl.shape
  have hfit : Fits (bump l1 (i, high) m) := fits_bump (hfl.fits hf) h0 (by unfold roomOf; simp only [hl1i]; rw [← hmost]; exact h1)
  have hbal : ∀ x, exc x (bump l1 (i, high) m) = exc x l := fun x => by
    rw [exc_bump l1 (i, high) m x hilt, hfl.ex x]
    unfold headOf tailOf
    simp only [hl1i]
    cases high <;> simp <;> omega
  refine ⟨hsh, hfit, hbal, fun n hE hc l2 hs2 hc2 b b2 hbi hb2 => ?_⟩
  rw [hb] at hbi
  obtain rfl := Option.some.inj hbi
  have hi2 := (List.getElem?_eq_some_iff.1 hb2).1
  have hib := (List.getElem?_eq_some_iff.1 hb).1
  have e2 : l2[i] = b2 := (List.getElem?_eq_some_iff.1 hb2).2
  have e1 := (List.getElem?_eq_some_iff.1 hb).2
  have hsh2 : shp (bump l1 (i, high) m) = shp l2 := hsh.trans hs2.symm
  have hbare := bare_eq (shp_get hsh2 i hib hi2)
  rw [e1, e2] at hbare
  obtain ⟨g1, g2, g3, g4⟩ := hbare
  dsimp only at g1 g2 g3 g4
  have hfit2 := hc2.fits b2 (by rw [← e2]; exact List.getElem_mem hi2)
  have hcb : Circ n (bump l1 (i, high) m) := ⟨hfit, fun v hv => (hbal v).trans (hc.bal v hv)⟩
  have hEb := shp_ends hsh.symm hE
  rcases hor with rfl | ⟨hC, hu, ht⟩
  · subst hmost
    cases high
    · simp only [Bool.false_eq_true, if_false] at *
      omega
    · simp only [if_true] at *
      omega
  · have hC2 : Closed R i (bump l1 (i, high) m) := closed_congr (bump_length _ _ _).symm (fun j hj => bump_get_other _ _ _ hj) hC
    cases high
    · simp only [Bool.false_eq_true, if_false] at *
      have := least_of_closed hsh2 hEb hcb hc2 hib hi2 hC2 (by rw [e1]; exact ht) (by rw [e1]; exact hu)
      rw [e1, e2] at this
      exact this
    · simp only [if_true] at *
      have := most_of_closed hsh2 hEb hcb hc2 hib hi2 hC2 (by rw [e1]; exact hu) (by rw [e1]; exact ht)
      rw [e1, e2] at this
      exact this

/-- A record after a store into one arc's flow. -/
theorem NetR.setFlow {w : World} {B nb : Nat} {v : Value} {l : List Ac} {tk pl : Nat} {rc : List Bool} (h : NetR w B nb v l tk pl rc) (s : St) (m : Int) (hs : s.1 < l.length) {g : Nat} (hv : v.ownBlock = some g) (x : Int) (hx : x = if s.2 then l[s.1].fl + m else l[s.1].fl - m) :
    NetR (w.setCell ⟨g, s.1 * 5 + 4, none⟩ (.int .i64 x)) B nb v (bump l s m) tk pl rc := by
  have hne : g ≠ nb := fun e => h.ne (by rw [hv, e])
  obtain ⟨g', cap, e, hb1, hb2⟩ := h.own.form (by omega)
  have eg : g' = g := by rw [e] at hv; simpa [Value.ownBlock] using hv
  subst eg
  have hown := h.own
  rw [e] at hown
  have hset := hown.set Ac.encW_len s.1 hs 4 (by omega) (.int .i64 x) { l[s.1] with fl := if s.2 then l[s.1].fl + m else l[s.1].fl - m } (by rw [hx]; rfl)
  rw [← bump_set l s m hs, ← e] at hset
  exact ⟨h.box.other _ (by dsimp only; omega), hset, h.ne, h.n36⟩

/-- What the call of 'push' leaves. -/
def PushPost (w : World) (B nb : Nat) (v : Value) (l : List Ac) (tk pl i : Nat) (high : Bool) (e : Ending) (w' : World) : Prop :=
  ∃ l' rc', e = .returned (.tuple #[]) ∧ NetR w' B nb v l' tk pl rc' ∧ Kept (Mine nb v) w w' ∧ PushR l l' i high
end Go.Proofs.Ytlakcghdehdeiaa

/- Walks: push. -/
namespace Go.Proofs.Ytlakcghdehdeiaa
open Go Go.Proofs Go.RowKit

set_option maxRecDepth 100000 in
set_option maxHeartbeats 1000000 in
theorem push80 (B nb : Nat) (v : Value) (l : List Ac) (tk pl : Nat) (rc : List Bool) (i : Nat) (high : Bool) (w : World) (hnet : NetR w B nb v l tk pl rc) (hl : l.length ≤ 1000) (hs : SmallS l 1000000000000) (hf : Fits l) (hE : Ends 36 l)
    (hi : i < l.length) (hne : l[i].fr ≠ l[i].to) :
    Calls Try.prog 80 #[.pointer (some ⟨nb, 0, none⟩), .int .i64 i, .bool high] w (PushPost w B nb v l tk pl i high) := by
  obtain ⟨g, cap, rfl, hg, hgs⟩ := hnet.own.form (by omega)
  have c0 := hnet.toA.c0
  have n0 := hnet.box.lt
  obtain ⟨e0, e1, e2, e3, e4⟩ := (hnet.own.at Ac.encW_len i hi).c5
  have hsm := hs l[i] (List.getElem_mem hi)
  have hfi := hf l[i] (List.getElem_mem hi)
  have hEi := hE l[i] (List.getElem_mem hi)
  have HI := Lib.hid (List.getElem?_eq_getElem hi)
  generalize hA : l[i] = a at *
  have HA := Lib.hid hA
  clear hA
  obtain ⟨fr, to, lo, hi', fl⟩ := a
  dsimp only at *
  have HL := Lib.hid hl
  have HNET := Lib.hid hnet
  have HS := Lib.hid hs
  have HF := Lib.hid hf
  have HE := Lib.hid hE
  clear hnet hs hf hE hl
  have HK := Lib.hid (show ∀ (m2 : Int) (u t : Nat) (Z : Int → List Bool → List Ac → Prop) (W' : World), (W' = { w with drawn := w.drawn + 1 } ∨ ∃ x m l1 rc1, x = Value.int .i64 m ∧ NetR W' B nb (.slice (some ⟨g, 0, none⟩) l.length cap) l1 tk pl rc1 ∧ Kept (Mine nb (.slice (some ⟨g, 0, none⟩) l.length cap)) w W' ∧ Flow l l1 u t i m ∧ 0 ≤ m ∧ m ≤ m2 ∧ Z m rc1 l1) → ∃ X : Keep w (fun b o => b = g ∧ i * 5 ≤ o ∧ o < i * 5 + 5), X.w = W' from by
    rintro m2 u t Z W' (rfl | ⟨x, m, l1, rc1, _, hn, _, hfl, _⟩)
    · exact ⟨⟨{ w with drawn := w.drawn + 1 }, fun _ _ _ => rfl⟩, rfl⟩
    · refine ⟨⟨W', ?_⟩, rfl⟩
      rintro b o ⟨rfl, h1, h2⟩
      have hx : l1[i]? = l[i]? := hfl.wo i rfl
      have hi1 : i < l1.length := by rw [shp_length hfl.shape]; exact hi
      rw [List.getElem?_eq_getElem hi1, List.getElem?_eq_getElem hi] at hx
      have hno := hn.own
      rw [← shp_length hfl.shape] at hno
      obtain ⟨d0, d1, d2, d3, d4⟩ := (hno.at Ac.encW_len i hi1).c5
      rw [Option.some.inj hx, HA.out] at d0 d1 d2 d3 d4
      obtain ⟨j, rfl⟩ : ∃ j, o = i * 5 + j := ⟨o - i * 5, by omega⟩
      have hj : j < 5 := by omega
      match j, hj with
      | 0, _ => exact d0.trans e0.symm
      | 1, _ => exact d1.trans e1.symm
      | 2, _ => exact d2.trans e2.symm
      | 3, _ => exact d3.trans e3.symm
      | 4, _ => exact d4.trans e4.symm)
  have HFN := Lib.hid (show ∀ (high : Bool) (m : Int) (l1 : List Ac) (rc1 : List Bool) (w2 : World), NetR w2 B nb (.slice (some ⟨g, 0, none⟩) l.length cap) l1 tk pl rc1 → Kept (Mine nb (.slice (some ⟨g, 0, none⟩) l.length cap)) w w2 → Flow l l1 (if high then to else fr) (if high then fr else to) i m → 0 ≤ m →
      m ≤ (if high then hi' - fl else fl - lo) → (m = (if high then hi' - fl else fl - lo) ∨ (Closed (fun x => rc1.getD x false) i l1 ∧ rc1.getD (if high then to else fr) false = true ∧ rc1.getD (if high then fr else to) false = false)) →
      PushPost w B nb (.slice (some ⟨g, 0, none⟩) l.length cap) l tk pl i high (.returned (.tuple #[])) (w2.setCell ⟨g, i * 5 + 4, none⟩ (.int .i64 (if high then fl + m else fl - m))) from by
    intro high m l1 rc1 w2 hn hk hfl h0 h1 hor
    have hi1 : i < l1.length := by rw [shp_length hfl.shape]; exact hi
    have hx : l1[i]? = l[i]? := hfl.wo i rfl
    rw [List.getElem?_eq_getElem hi1, List.getElem?_eq_getElem hi] at hx
    refine ⟨_, rc1, rfl, hn.setFlow (i, high) m hi1 rfl _ (by dsimp only; rw [Option.some.inj hx, HA.out]), hk.set _ (.inl (.inr rfl)), pushR_of (a := ⟨fr, to, lo, hi', fl⟩) ((List.getElem?_eq_getElem hi).trans (by rw [HA.out])) HF.out hfl rfl h0 h1 hor⟩)
  have HGN := Lib.hid (show ∀ (w2 : World) (l1 : List Ac) (rc1 : List Bool) (u t : Nat) (m : Int), NetR w2 B nb (.slice (some ⟨g, 0, none⟩) l.length cap) l1 tk pl rc1 → Flow l l1 u t i m → w2.cell? ⟨g, i * 5 + 4, none⟩ = some (.int .i64 fl) ∧ w2.frozen? ⟨g, i * 5 + 4, none⟩ = false from by
    intro w2 l1 rc1 u t m hn hfl
    have hx : l1[i]? = l[i]? := hfl.wo i rfl
    have hi1 : i < l1.length := by rw [shp_length hfl.shape]; exact hi
    rw [List.getElem?_eq_getElem hi1, List.getElem?_eq_getElem hi] at hx
    have hno := hn.own
    rw [← shp_length hfl.shape] at hno
    obtain ⟨d0, d1, d2, d3, d4⟩ := (hno.at Ac.encW_len i hi1).c5
    rw [Option.some.inj hx, HA.out] at d4
    exact ⟨d4, hno.frozen _⟩)
  go_enter Try.func80, Try.ntmps80
  cases high
  · go_wp2_with fail
    refine wp_region_callflow 25 24 _ 90 (fun u w' => ∃ m l1 rc1, u = .int .i64 m ∧ NetR w' B nb (.slice (some ⟨g, 0, none⟩) l.length cap) l1 tk pl rc1 ∧ Kept (Mine nb (.slice (some ⟨g, 0, none⟩) l.length cap)) w w' ∧ Flow l l1 fr to i m ∧ 0 ≤ m ∧ m ≤ fl - lo ∧
      (m = fl - lo ∨ (Closed (fun x => rc1.getD x false) i l1 ∧ rc1.getD fr false = true ∧ rc1.getD to false = false))) (by kernel_rfl) (by kernel_rfl) rfl ?_
    apply Exists.intro
    refine ⟨fun W' hW' => ?_, ?_⟩
    · obtain ⟨X, hX⟩ := HK.out (fl - lo) fr to (fun m rc1 l1 => m = fl - lo ∨ (Closed (fun x => rc1.getD x false) i l1 ∧ rc1.getD fr false = true ∧ rc1.getD to false = false)) W' hW'
      subst hX
      rw [← keep1_class X]
      simp only [headsOf, List.take_succ_cons, List.drop_succ_cons, List.take_zero, List.drop_zero, Nat.reduceSub, List.cons_append, List.nil_append]
      repeat go_big_quiet_step (fail)
      exact wpQuiet_nil rfl
    apply Exists.intro
    refine ⟨?_, ?_, ?_⟩
    · go_simp
      first | rfl | (go_ints; rfl)
    · refine (flood90 B nb (.slice (some ⟨g, 0, none⟩) l.length cap) l tk pl rc fr to (fl - lo) i { w with drawn := w.drawn + 1 } (HNET.out.later ⟨rfl, rfl, rfl, Nat.le_refl _, fun _ _ => rfl⟩) HL.out HS.out HF.out HE.out hEi.1 hEi.2 hne (by omega) (by omega)).mono ?_
      rintro e w2 ⟨m, l1, rc1, rfl, hn, hk, hfl, h0, h1, hor⟩
      exact ⟨_, rfl, m, l1, rc1, rfl, hn, (Kept.trans (Kept.drew (Kept.refl _ _)) hk), hfl, h0, h1, hor⟩
    · rintro u w2 ⟨m, l1, rc1, rfl, hn, hk, hfl, h0, h1, hor⟩
      have HFIN := HFN.out false m l1 rc1 w2 hn hk hfl h0 h1 hor
      obtain ⟨d4, z4⟩ := HGN.out w2 l1 rc1 _ _ m hn hfl
      have HFX := Lib.hid HFIN
      clear HFIN
      clear hn hk hfl hor
      simp only [Act.put, List.setIfInBounds_toArray, List.set_cons_succ, List.set_cons_zero, List.drop_succ_cons, List.drop_zero]
      go_wp2_with fail
      exact bodyPost_end (results_none rfl _ _ _) rfl HFX.out
  · go_wp2_with fail
    refine wp_region_callflow 25 24 _ 90 (fun u w' => ∃ m l1 rc1, u = .int .i64 m ∧ NetR w' B nb (.slice (some ⟨g, 0, none⟩) l.length cap) l1 tk pl rc1 ∧ Kept (Mine nb (.slice (some ⟨g, 0, none⟩) l.length cap)) w w' ∧ Flow l l1 to fr i m ∧ 0 ≤ m ∧ m ≤ hi' - fl ∧
      (m = hi' - fl ∨ (Closed (fun x => rc1.getD x false) i l1 ∧ rc1.getD to false = true ∧ rc1.getD fr false = false))) (by kernel_rfl) (by kernel_rfl) rfl ?_
    apply Exists.intro
    refine ⟨fun W' hW' => ?_, ?_⟩
    · obtain ⟨X, hX⟩ := HK.out (hi' - fl) to fr (fun m rc1 l1 => m = hi' - fl ∨ (Closed (fun x => rc1.getD x false) i l1 ∧ rc1.getD to false = true ∧ rc1.getD fr false = false)) W' hW'
      subst hX
      rw [← keep1_class X]
      simp only [headsOf, List.take_succ_cons, List.drop_succ_cons, List.take_zero, List.drop_zero, Nat.reduceSub, List.cons_append, List.nil_append]
      repeat go_big_quiet_step (fail)
      exact wpQuiet_nil rfl
    apply Exists.intro
    refine ⟨?_, ?_, ?_⟩
    · go_simp
      first | rfl | (go_ints; rfl)
    · refine (flood90 B nb (.slice (some ⟨g, 0, none⟩) l.length cap) l tk pl rc to fr (hi' - fl) i { w with drawn := w.drawn + 1 } (HNET.out.later ⟨rfl, rfl, rfl, Nat.le_refl _, fun _ _ => rfl⟩) HL.out HS.out HF.out HE.out hEi.2 hEi.1 (Ne.symm hne) (by omega) (by omega)).mono ?_
      rintro e w2 ⟨m, l1, rc1, rfl, hn, hk, hfl, h0, h1, hor⟩
      exact ⟨_, rfl, m, l1, rc1, rfl, hn, (Kept.trans (Kept.drew (Kept.refl _ _)) hk), hfl, h0, h1, hor⟩
    · rintro u w2 ⟨m, l1, rc1, rfl, hn, hk, hfl, h0, h1, hor⟩
      have HFIN := HFN.out true m l1 rc1 w2 hn hk hfl h0 h1 hor
      obtain ⟨d4, z4⟩ := HGN.out w2 l1 rc1 _ _ m hn hfl
      have HFX := Lib.hid HFIN
      clear HFIN
      clear hn hk hfl hor
      simp only [Act.put, List.setIfInBounds_toArray, List.set_cons_succ, List.set_cons_zero, List.drop_succ_cons, List.drop_zero]
      go_wp2_with fail
      exact bodyPost_end (results_none rfl _ _ _) rfl HFX.out
end Go.Proofs.Ytlakcghdehdeiaa

/- Walks: extent. -/
namespace Go.Proofs.Ytlakcghdehdeiaa
open Go Go.Proofs Go.RowKit

/-- The least and the greatest flow through an arc, among all circulations. -/
def Extent (n : Nat) (l : List Ac) (i : Nat) (lo hi : Int) : Prop :=
  (∃ l2 a, shp l2 = shp l ∧ Circ n l2 ∧ l2[i]? = some a ∧ a.fl = lo) ∧ (∃ l2 a, shp l2 = shp l ∧ Circ n l2 ∧ l2[i]? = some a ∧ a.fl = hi) ∧
    ∀ l2 a, shp l2 = shp l → Circ n l2 → l2[i]? = some a → lo ≤ a.fl ∧ a.fl ≤ hi

theorem extent_of {l l1 l2 : List Ac} {i n : Nat} {a1 a2 : Ac} (h1 : PushR l l1 i false) (h2 : PushR l1 l2 i true) (hE : Ends n l) (hc : Circ n l) (e1 : l1[i]? = some a1) (e2 : l2[i]? = some a2) : Extent n l i a1.fl a2.fl := by
  have hc1 := h1.circ hc
  refine ⟨⟨l1, a1, h1.shape, hc1, e1, rfl⟩, ⟨l2, a2, h2.shape.trans h1.shape, h2.circ hc1, e2, rfl⟩, fun l3 a3 hs3 hc3 e3 => ?_⟩
  have k1 := h1.ext n hE hc l3 hs3 hc3 a1 a3 e1 e3
  have k2 := h2.ext n (shp_ends h1.shape.symm hE) hc1 l3 (hs3.trans h1.shape.symm) hc3 a2 a3 e2 e3
  simp only [Bool.false_eq_true, if_false, if_true] at k1 k2
  exact ⟨k1, k2⟩

theorem NetR.other {w : World} {B nb : Nat} {v : Value} {l : List Ac} {tk pl : Nat} {rc : List Bool} (h : NetR w B nb v l tk pl rc) {p : Addr} (u : Value) (h1 : p.block ≠ nb) (h2 : v.ownBlock ≠ some p.block) : NetR (w.setCell p u) B nb v l tk pl rc :=
  ⟨h.box.other _ h1, h.own.other _ h2, h.ne, h.n36⟩

def ExtPost (w : World) (B nb : Nat) (v : Value) (l : List Ac) (tk pl i : Nat) (e : Ending) (w' : World) : Prop :=
  ∃ l' rc' lo hi, e = .returned (.agg #[.int .i64 lo, .int .i64 hi]) ∧ NetR w' B nb v l' tk pl rc' ∧ Kept (Mine nb v) w w' ∧ shp l' = shp l ∧ Fits l' ∧ ∀ n, Ends n l → Circ n l → Circ n l' ∧ Extent n l i lo hi

theorem Box.keeps {S : Nat → Prop} {w w' : World} {k : Nat} {e : TypeId} {vs : List Value} (h : Box w k e vs) (hk : Kept S w w') (hn : ¬ S k) : Box w' k e vs := (hk.block k h.lt hn).trans h

set_option maxRecDepth 100000 in
set_option maxHeartbeats 1000000 in
theorem extent79 (B nb : Nat) (v : Value) (l : List Ac) (tk pl : Nat) (rc : List Bool) (i : Nat) (w : World) (hnet : NetR w B nb v l tk pl rc) (hl : l.length ≤ 1000) (hs : SmallS l 1000000000000) (hf : Fits l) (hE : Ends 36 l)
    (hi : i < l.length) (hne : l[i].fr ≠ l[i].to) :
    Calls Try.prog 79 #[.pointer (some ⟨nb, 0, none⟩), .int .i64 i] w (ExtPost w B nb v l tk pl i) := by
  obtain ⟨g, cap, rfl, hg, hgs⟩ := hnet.own.form (by omega)
  have n0 := hnet.box.lt
  have HNET := Lib.hid hnet
  have HL := Lib.hid hl
  have HS := Lib.hid hs
  have HF := Lib.hid hf
  have HE := Lib.hid hE
  have HNE := Lib.hid hne
  clear hnet hs hf hE hne
  -- what a record with these arcs tells of arc i
  have HAT := Lib.hid (show ∀ (w2 : World) (l1 : List Ac) (rc1 : List Bool), NetR w2 B nb (.slice (some ⟨g, 0, none⟩) l.length cap) l1 tk pl rc1 → shp l1 = shp l → ∃ a, l1[i]? = some a ∧ w2.cell? ⟨nb, 0, none⟩ = some (.slice (some ⟨g, 0, none⟩) l.length cap) ∧ w2.cell? ⟨g, i * 5 + 4, none⟩ = some (.int .i64 a.fl) from by
    intro w2 l1 rc1 hn hsh
    have hi1 : i < l1.length := by rw [shp_length hsh]; exact hi
    have hno := hn.own
    rw [← shp_length hsh] at hno
    obtain ⟨d0, d1, d2, d3, d4⟩ := (hno.at Ac.encW_len i hi1).c5
    exact ⟨_, List.getElem?_eq_getElem hi1, hn.toA.c0, d4⟩)
  have HP := Lib.hid (show ∀ (high : Bool) (w2 : World) (l1 : List Ac) (rc1 : List Bool), NetR w2 B nb (.slice (some ⟨g, 0, none⟩) l.length cap) l1 tk pl rc1 → shp l1 = shp l → Fits l1 →
      Calls Try.prog 80 #[.pointer (some ⟨nb, 0, none⟩), .int .i64 i, .bool high] w2 (PushPost w2 B nb (.slice (some ⟨g, 0, none⟩) l.length cap) l1 tk pl i high) from by
    intro high w2 l1 rc1 hn hsh hf1
    have hi1 : i < l1.length := by rw [shp_length hsh]; exact hi
    have hb := bare_eq (shp_get hsh i hi1 hi)
    exact push80 B nb _ l1 tk pl rc1 i high w2 hn (by rw [shp_length hsh]; exact HL.out) (HS.out.shp hsh) hf1 (shp_ends hsh.symm HE.out) hi1 (by rw [hb.1, hb.2.1]; exact HNE.out))
  go_enter Try.func79, Try.ntmps79
  go_wp2_with fail
  refine (HP.out false _ l rc (HNET.out.alloc _) rfl HF.out).mono ?_
  rintro e w1 ⟨l1, rc1, rfl, hn1, hk1, hp1⟩
  have hx1 := (Box.new w #[.int .i64 0, .int .i64 0] 24).keeps hk1 (by
    rintro (h | h)
    · omega
    · have h2 : g = w.heap.size := Option.some.inj h
      omega)
  have hkk1 := (Kept.refl (Mine nb (.slice (some ⟨g, 0, none⟩) l.length cap)) w).alloc (.cells #[.int .i64 0, .int .i64 0] 24) |>.trans hk1
  obtain ⟨a1, ea1, c0, d4⟩ := HAT.out w1 l1 rc1 hn1 hp1.shape
  have HP1 := Lib.hid hp1
  have HN1 := Lib.hid hn1
  have HK1 := Lib.hid hkk1
  have HEA1 := Lib.hid ea1
  clear hn1 hk1 hp1 hkk1 ea1
  go_wp2_with fail
  refine (HP.out true _ l1 rc1 HN1.out HP1.out.shape HP1.out.fits).mono ?_
  rintro e w2 ⟨l2, rc2, rfl, hn2, hk2, hp2⟩
  have hx2 := hx1.keeps hk2 (by
    rintro (h | h)
    · omega
    · have h2 : g = w.heap.size := Option.some.inj h
      omega)
  clear c0 d4
  obtain ⟨a2, ea2, c0, d4⟩ := HAT.out w2 l2 rc2 hn2 (hp2.shape.trans HP1.out.shape)
  have x0 := hx2.cell 0
  have x1 := hx2.cell 1
  have y0 := hx2.frozen 0
  have y1 := hx2.frozen 1
  have HN2 := Lib.hid hn2
  have HP2 := Lib.hid hp2
  have HK2 := Lib.hid (HK1.out.trans hk2)
  have HEA2 := Lib.hid ea2
  clear hn2 hp2 hk2 ea2
  simp only [List.getElem?_cons_zero, List.getElem?_cons_succ] at x0 x1
  go_wp2_with fail
  have hx3 := (hx2.set 0 (.int .i64 a1.fl)).set 1 (.int .i64 a2.fl)
  have hn3 := (HN2.out.other (p := ⟨w.heap.size, 0, none⟩) (.int .i64 a1.fl) (by dsimp only; omega) (by intro h; have h2 : g = w.heap.size := Option.some.inj h; omega)).other (p := ⟨w.heap.size, 1, none⟩) (.int .i64 a2.fl) (by dsimp only; omega) (by intro h; have h2 : g = w.heap.size := Option.some.inj h; omega)
  have hk3 := (HK2.out.set (p := ⟨w.heap.size, 0, none⟩) (.int .i64 a1.fl) (.inr (Nat.le_refl _))).set (p := ⟨w.heap.size, 1, none⟩) (.int .i64 a2.fl) (.inr (Nat.le_refl _))
  clear x0 x1
  have x0 := hx3.cell 0
  have x1 := hx3.cell 1
  simp only [List.set_cons_zero, List.set_cons_succ, List.getElem?_cons_zero, List.getElem?_cons_succ] at x0 x1
  generalize (w2.setCell ⟨w.heap.size, 0, none⟩ (.int .i64 a1.fl)).setCell ⟨w.heap.size, 1, none⟩ (.int .i64 a2.fl) = w3 at *
  refine bodyPost_ret (v := .agg #[.int .i64 a1.fl, .int .i64 a2.fl]) (by simp [results, Try.results79, go_sem, *]) rfl ?_
  exact ⟨l2, rc2, a1.fl, a2.fl, rfl, hn3, hk3, HP2.out.shape.trans HP1.out.shape, HP2.out.fits, fun n hE2 hc => ⟨HP2.out.circ (HP1.out.circ hc), extent_of HP1.out HP2.out hE2 hc HEA1.out HEA2.out⟩⟩
end Go.Proofs.Ytlakcghdehdeiaa

/- Walks: weigh.IsConsistent and settled. -/
namespace Go.Proofs.Ytlakcghdehdeiaa
open Go Go.Proofs Go.RowKit

/-- A book has an assignment. -/
def Con (b : Bk) : Prop := ∃ l, shp l = shp (arcsOf b) ∧ Circ (b.st.length + 1) l

theorem settle_con {w w' : World} {b : Bk} {e : Ending} (hok : OkBk b) (h : SettlePost w b e w') :
    ∃ ok nb v l rc, e = .returned (.tuple #[.pointer (some ⟨nb, 0, none⟩), .bool ok]) ∧ NetR w' w.heap.size nb v l b.ts.length b.st.length rc ∧ Below w.heap.size w w' ∧ w.heap.size ≤ nb ∧ shp l = shp (arcsOf b) ∧ Fits l ∧
      (ok = true ↔ Con b) ∧ (ok = true → Circ (b.st.length + 1) l) ∧ (ok = false → 0 < cutv (fun x => rc.getD x false) (arcsOf b)) := by
  obtain ⟨ok, nb, v, l, rc, h1, h2, h3, h4, h5, h6, h7, h8⟩ := h
  refine ⟨ok, nb, v, l, rc, h1, h2, h3, h4, h5, h6, ⟨fun h => ⟨l, h5, h7 h⟩, fun ⟨l2, hs2, hc2⟩ => ?_⟩, h7, h8⟩
  cases ok with
  | true => rfl
  | false => exact absurd hc2 (no_circ hs2 (arcs_ends hok) (h8 rfl))

def IsConPost (w : World) (b : Bk) (e : Ending) (w' : World) : Prop :=
  ∃ ok, e = .returned (.tuple #[.bool ok, .int .i64 (ckBook b)]) ∧ Below w.heap.size w w' ∧ (ok = true ↔ ckBook b = 0 ∧ Con b)

set_option maxRecDepth 100000 in
set_option maxHeartbeats 1000000 in
theorem isCon37 (w : World) (v1 v2 : Value) (b : Bk) (hv : BkR w w.heap.size v1 v2 b) : Calls Try.prog 37 #[.agg #[v1, v2]] w (IsConPost w b) := by
  have HC := Lib.hid (fun (w1 : World) (hb : Below w.heap.size w w1) => ckBook25 v1 v2 b w1 (hv.later hb))
  have HS := Lib.hid (fun (w1 : World) (hb : Below w.heap.size w w1) (hok : OkBk b) => settle72 w1 v1 v2 b hok (hv.later hb))
  obtain ⟨⟨a1, n1, hv1, hl1, hA1⟩, ⟨a2, n2, hv2, hl2, hA2⟩, hids⟩ := hv
  subst hv1 hv2
  clear hA1 hA2 hids
  go_enter Try.func37, Try.ntmps37
  go_wp2_with fail
  refine (HC.out _ ((Below.refl _ _).alloc (Nat.le_refl _) _)).mono ?_
  rintro e w1 ⟨rfl, hb1⟩
  have hx1 := (Box.new w #[.slice a1 b.st.length n1, .slice a2 b.ts.length n2] 38).later hb1
  have hbb := ((Below.refl w.heap.size w).alloc (Nat.le_refl _) (.cells #[.slice a1 b.st.length n1, .slice a2 b.ts.length n2] 38)).trans (hb1.mono (by simp))
  have HB := Lib.hid hbb
  have x0 := hx1.cell 0
  have x1 := hx1.cell 1
  simp only [List.getElem?_cons_zero, List.getElem?_cons_succ] at x0 x1
  clear hb1 hbb
  by_cases hck : ckBook b = 0
  · have hne : (ckBook b == 0) = true := by simp [hck]
    have HCK := Lib.hid hck
    go_wp2_with fail
    refine (HS.out w1 HB.out (okBk_of HCK.out)).mono ?_
    intro e w2 hp
    obtain ⟨ok, nb, v, l, rc, rfl, _, hb2, _, _, _, hiff, _⟩ := settle_con (okBk_of HCK.out) hp
    have HB2 := Lib.hid (HB.out.trans (hb2.mono HB.out.size))
    have HIF := Lib.hid hiff
    clear hp hb2 hiff
    go_wp2_with fail
    refine bodyPost_ret (results_tmp2 rfl _ _ _) rfl ?_
    exact ⟨ok, (by rw [HCK.out]; rfl), HB2.out, by rw [HIF.out]; exact ⟨fun h => ⟨HCK.out, h⟩, fun h => h.2⟩⟩
  · have hne : (ckBook b == 0) = false := by simp [hck]
    have HCK := Lib.hid hck
    clear hck
    go_wp2_with fail
    refine bodyPost_ret (results_tmp2 rfl _ _ _) rfl ?_
    exact ⟨false, rfl, HB.out, by simp [HCK.out]⟩

def SettledPost (w : World) (b : Bk) (e : Ending) (w' : World) : Prop :=
  Below w.heap.size w w' ∧ ((ckBook b ≠ 0 ∧ e = .returned (.tuple #[.pointer none, .int .i64 (ckBook b)])) ∨ (ckBook b = 0 ∧ ¬ Con b ∧ e = .returned (.tuple #[.pointer none, .int .i64 15])) ∨
    (ckBook b = 0 ∧ Con b ∧ ∃ nb v l rc, e = .returned (.tuple #[.pointer (some ⟨nb, 0, none⟩), .int .i64 0]) ∧ NetR w' w.heap.size nb v l b.ts.length b.st.length rc ∧ w.heap.size ≤ nb ∧ shp l = shp (arcsOf b) ∧ Circ (b.st.length + 1) l))

theorem Own.lower {α : Type} {f : α → List Value} {sz : Nat} {e : TypeId} {w : World} {base base' : Nat} {v : Value} {l : List α} (h : Own f sz e w base v l) (hB : base' ≤ base) : Own f sz e w base' v l := by
  obtain ⟨h1, h2⟩ := h
  refine ⟨h1, ?_⟩
  rcases h2 with h2 | ⟨g, cap, cur, h2, h3, h4⟩
  · exact .inl h2
  · exact .inr ⟨g, cap, cur, h2, Nat.le_trans hB h3, h4⟩
theorem NetR.lower {w : World} {B B' nb : Nat} {v : Value} {l : List Ac} {tk pl : Nat} {rc : List Bool} (h : NetR w B nb v l tk pl rc) (hB : B' ≤ B) : NetR w B' nb v l tk pl rc :=
  ⟨h.box, h.own.lower hB, h.ne, h.n36⟩

set_option maxRecDepth 100000 in
set_option maxHeartbeats 1000000 in
theorem settled78 (w : World) (v1 v2 : Value) (b : Bk) (hv : BkR w w.heap.size v1 v2 b) : Calls Try.prog 78 #[.agg #[v1, v2]] w (SettledPost w b) := by
  have HC := Lib.hid (fun (w1 : World) (hb : Below w.heap.size w w1) => ckBook25 v1 v2 b w1 (hv.later hb))
  have HS := Lib.hid (fun (w1 : World) (hb : Below w.heap.size w w1) (hok : OkBk b) => settle72 w1 v1 v2 b hok (hv.later hb))
  obtain ⟨⟨a1, n1, hv1, hl1, hA1⟩, ⟨a2, n2, hv2, hl2, hA2⟩, hids⟩ := hv
  subst hv1 hv2
  clear hA1 hA2 hids
  go_enter Try.func78, Try.ntmps78
  go_wp2_with fail
  refine (HC.out _ ((Below.refl _ _).alloc (Nat.le_refl _) _)).mono ?_
  rintro e w1 ⟨rfl, hb1⟩
  have hx1 := (Box.new w #[.slice a1 b.st.length n1, .slice a2 b.ts.length n2] 38).later hb1
  have hbb := ((Below.refl w.heap.size w).alloc (Nat.le_refl _) (.cells #[.slice a1 b.st.length n1, .slice a2 b.ts.length n2] 38)).trans (hb1.mono (by simp))
  have HB := Lib.hid hbb
  have x0 := hx1.cell 0
  have x1 := hx1.cell 1
  simp only [List.getElem?_cons_zero, List.getElem?_cons_succ] at x0 x1
  clear hb1 hbb
  by_cases hck : ckBook b = 0
  · have hne : (ckBook b == 0) = true := by simp [hck]
    have HCK := Lib.hid hck
    go_wp2_with fail
    refine (HS.out w1 HB.out (okBk_of HCK.out)).mono ?_
    intro e w2 hp
    obtain ⟨ok, nb, v, l, rc, rfl, hn, hb2, hnb, hsh, _, hiff, hci, _⟩ := settle_con (okBk_of HCK.out) hp
    have HB2 := Lib.hid (HB.out.trans (hb2.mono HB.out.size))
    have HIF := Lib.hid hiff
    have HN := Lib.hid (hn.lower HB.out.size)
    have HNB := Lib.hid (Nat.le_trans HB.out.size hnb)
    have HCI := Lib.hid hci
    have HSH := Lib.hid hsh
    clear hp hb2 hiff hn hnb hci hsh
    cases ok
    · go_wp2_with fail
      refine bodyPost_ret (results_tmp2 rfl _ _ _) rfl ?_
      exact ⟨HB2.out, .inr (.inl ⟨HCK.out, fun h => (by have := HIF.out.2 h; cases this), rfl⟩)⟩
    · go_wp2_with fail
      refine bodyPost_ret (results_tmp2 rfl _ _ _) rfl ?_
      exact ⟨HB2.out, .inr (.inr ⟨HCK.out, HIF.out.1 (by trivial), nb, v, l, rc, rfl, HN.out, HNB.out, HSH.out, HCI.out (by trivial)⟩)⟩
  · have hne : (ckBook b == 0) = false := by simp [hck]
    have HCK := Lib.hid hck
    clear hck
    go_wp2_with fail
    refine bodyPost_ret (results_tmp2 rfl _ _ _) rfl ?_
    exact ⟨HB.out, .inl ⟨HCK.out, rfl⟩⟩
end Go.Proofs.Ytlakcghdehdeiaa

/- Walks: weigh.Tighten. -/
namespace Go.Proofs.Ytlakcghdehdeiaa
open Go Go.Proofs Go.RowKit

/-- The narrowest ranges of the first tickets. -/
def Tight (b : Bk) (rs : List Rg) : Prop := ∀ i r, rs[i]? = some r → Extent (b.st.length + 1) (arcsOf b) i r.lo r.hi

theorem Own.keeps {α : Type} {f : α → List Value} {sz : Nat} {e : TypeId} {w w' : World} {base : Nat} {v : Value} {l : List α} {S : Nat → Prop} (h : Own f sz e w base v l) (hk : Kept S w w') (hn : ∀ k, v.ownBlock = some k → ¬ S k) : Own f sz e w' base v l := by
  have h0 := h
  obtain ⟨h1, h2⟩ := h
  refine ⟨h1, ?_⟩
  rcases h2 with h2 | ⟨g, cap, cur, h2, h3, h4, h5⟩
  · exact .inl h2
  · have hg : g < w.heap.size := (Array.getElem?_eq_some_iff.1 h4).1
    refine .inr ⟨g, cap, cur, h2, h3, ?_, h5⟩
    rw [hk.block g hg (hn g (by rw [h2]; rfl))]; exact h4

theorem Own.two_types {α β : Type} {f : α → List Value} {f' : β → List Value} {sz sz' : Nat} {e e' : TypeId} {w : World} {base base' : Nat} {v v' : Value} {l : List α} {l' : List β} (h : Own f sz e w base v l) (h' : Own f' sz' e' w base' v' l') (hne : e' ≠ e) :
    ∀ k, v.ownBlock = some k → v'.ownBlock ≠ some k := fun k hk hk' => by
  rcases h'.2 with ⟨rfl, _⟩ | ⟨g, cap, cur, rfl, _, hg, _⟩
  · simp [Value.ownBlock] at hk'
  · obtain rfl : g = k := by simpa [Value.ownBlock] using hk'
    rcases h.2 with ⟨rfl, _⟩ | ⟨g', cap', cur', rfl, _, hg', _⟩
    · simp [Value.ownBlock] at hk
    · obtain rfl : g' = g := by simpa [Value.ownBlock] using hk
      rw [hg] at hg'
      cases hg'
      exact hne rfl

theorem Extent.shp {n : Nat} {l l' : List Ac} {i : Nat} {lo hi : Int} (hs : shp l' = shp l) (h : Extent n l' i lo hi) : Extent n l i lo hi := by
  obtain ⟨⟨l1, a1, h1, h2⟩, ⟨l3, a3, h3, h4⟩, h5⟩ := h
  exact ⟨⟨l1, a1, h1.trans hs, h2⟩, ⟨l3, a3, h3.trans hs, h4⟩, fun l2 a2 e1 e2 e3 => h5 l2 a2 (e1.trans hs.symm) e2 e3⟩

def TightPost (w : World) (b : Bk) (e : Ending) (w' : World) : Prop :=
  Below w.heap.size w w' ∧ ((ckBook b ≠ 0 ∧ e = .returned (.tuple #[.slice none 0 0, .int .i64 (ckBook b)])) ∨ (ckBook b = 0 ∧ ¬ Con b ∧ e = .returned (.tuple #[.slice none 0 0, .int .i64 15])) ∨
    (ckBook b = 0 ∧ Con b ∧ ∃ v rs, e = .returned (.tuple #[v, .int .i64 0]) ∧ Sl Rg.enc 2 w' w'.heap.size v rs ∧ rs.length = b.ts.length ∧ Tight b rs))

/-- What the walk knows between two tickets. -/
structure TightW (w wr : World) (b : Bk) (nb : Nat) (v vo : Value) (rs : List Rg) : Prop where
  net : ∃ l rc, NetR wr w.heap.size nb v l b.ts.length b.st.length rc ∧ shp l = shp (arcsOf b) ∧ Circ (b.st.length + 1) l
  own : Own Rg.enc 2 24 wr w.heap.size vo rs
  tight : Tight b rs
  nlt : w.heap.size ≤ nb
  below : Below w.heap.size w wr

theorem smallS_arcs {b : Bk} (hok : OkBk b) : SmallS (arcsOf b) 1000000000000 := fun a ha => by
  have := arcs_props hok ha
  omega

/-- One ticket more. -/
theorem TightW.call {w wr : World} {b : Bk} {nb : Nat} {v vo : Value} {rs : List Rg} (h : TightW w wr b nb v vo rs) (hok : OkBk b) (k : Nat) (hk : k < b.ts.length) (hl : rs.length = k) :
    Calls Try.prog 79 #[.pointer (some ⟨nb, 0, none⟩), .int .i64 k] wr fun e w' => ∃ lo hi, e = .returned (.agg #[.int .i64 lo, .int .i64 hi]) ∧ wr.heap.size ≤ w'.heap.size ∧ Own Rg.enc 2 24 w' w.heap.size vo rs ∧
      (∀ vo' w2, Own Rg.enc 2 24 w2 w.heap.size vo' (rs ++ [⟨lo, hi⟩]) → w'.grownBy w2 vo.ownBlock → TightW w w2 b nb v vo' (rs ++ [⟨lo, hi⟩])) := by
  obtain ⟨⟨l, rc, hn, hsh, hc⟩, hown, ht, hnlt, hbel⟩ := h
  have hlen := shp_length hsh
  have hal := arcs_len b
  have h32 := hok.st32
  have h128 := hok.ts128
  have hi : k < l.length := by omega
  have hE := shp_ends hsh.symm (arcs_ends hok)
  have hE36 : Ends 36 l := fun a ha => by have := hE a ha; omega
  have hne : l[k].fr ≠ l[k].to := by
    have hb := bare_eq (shp_get hsh k hi (by omega))
    rw [hb.1, hb.2.1]
    exact (arcs_props hok (List.getElem_mem (by omega : k < (arcsOf b).length))).2.2.1
  refine (extent79 w.heap.size nb v l b.ts.length b.st.length rc k wr hn (by omega) ((smallS_arcs hok).shp hsh) hc.fits hE36 hi hne).mono ?_
  rintro e w' ⟨l', rc', lo, hi', rfl, hn', hk', hsh', hf', hext⟩
  obtain ⟨hc', hx⟩ := hext _ hE hc
  have hS : ∀ j, vo.ownBlock = some j → ¬ Mine nb v j := by
    rintro j hj (rfl | hm)
    · exact hown.other_type hn.box (by decide) hj
    · exact hown.two_types hn.own (by decide) j hj hm
  have hown' := hown.keeps hk' hS
  refine ⟨lo, hi', rfl, hk'.size, hown', fun vo' w2 ho2 hg => ⟨⟨l', rc', ?_, hsh'.trans hsh, hc'⟩, ho2, ?_, hnlt, ?_⟩⟩
  · have hnb : some nb ≠ vo.ownBlock := fun e => hown.other_type hn.box (by decide) e.symm
    refine ⟨hn'.box.grown hg hnb, hn'.own.kept hg ?_, hn'.ne, hn'.n36⟩
    by_cases hv : v.ownBlock = none
    · exact .inl hv
    · refine .inr fun e => ?_
      cases h : v.ownBlock with
      | none => exact hv h
      | some j => rw [h] at e; exact hown.two_types hn.own (by decide) j e.symm h
  · intro i r hr
    by_cases hlt : i < rs.length
    · rw [List.getElem?_append_left hlt] at hr; exact ht i r hr
    · rw [List.getElem?_append_right (by omega)] at hr
      by_cases h0 : i = rs.length
      · subst h0
        simp at hr
        subst hr
        rw [hl]
        exact hx.shp hsh
      · rw [List.getElem?_eq_none (by simp; omega)] at hr; cases hr
  · have hb' : Below w.heap.size w w' := hbel.trans (hk'.toBelow hbel.size (by
      rintro j (rfl | hm)
      · exact hnlt
      · exact (World.ownsRow.lt hn.own j hm).1))
    exact hb'.grown hg hb'.size fun j hj => (World.ownsRow.lt hown' j hj).1

set_option maxRecDepth 100000 in
set_option maxHeartbeats 1000000 in
theorem tighten35 (w : World) (v1 v2 : Value) (b : Bk) (hv : BkR w w.heap.size v1 v2 b) : Calls Try.prog 35 #[.agg #[v1, v2]] w (TightPost w b) := by
  have HC := Lib.hid (fun (w1 : World) (hb : Below w.heap.size w w1) => settled78 w1 v1 v2 b (hv.later hb))
  obtain ⟨⟨a1, n1, hv1, hl1, hA1⟩, ⟨a2, n2, hv2, hl2, hA2⟩, hids⟩ := hv
  subst hv1 hv2
  clear hA1 hA2 hids
  go_enter Try.func35, Try.ntmps35
  go_wp2_with fail
  refine (HC.out _ ((Below.refl _ _).alloc (Nat.le_refl _) _)).mono ?_
  rintro e w1 ⟨hb1, hor⟩
  have hx1 := (Box.new w #[.slice a1 b.st.length n1, .slice a2 b.ts.length n2] 38).later hb1
  have hbb := ((Below.refl w.heap.size w).alloc (Nat.le_refl _) (.cells #[.slice a1 b.st.length n1, .slice a2 b.ts.length n2] 38)).trans (hb1.mono (by simp))
  have HB := Lib.hid hbb
  have x0 := hx1.cell 0
  have x1 := hx1.cell 1
  simp only [List.getElem?_cons_zero, List.getElem?_cons_succ] at x0 x1
  clear hbb hb1
  rcases hor with ⟨hck, rfl⟩ | ⟨hck, hcon, rfl⟩ | ⟨hck, hcon, nb, v, l, rc, rfl, hn, hnb, hsh, hci⟩
  · have hne : (ckBook b == 0) = false := by simp [hck]
    have HCK := Lib.hid hck
    clear hck
    go_wp2_with fail
    refine bodyPost_ret (results_tmp2 rfl _ _ _) rfl ?_
    exact ⟨HB.out, .inl ⟨HCK.out, rfl⟩⟩
  · have HCK := Lib.hid hck
    have HCON := Lib.hid hcon
    clear hck hcon
    go_wp2_with fail
    refine bodyPost_ret (results_tmp2 rfl _ _ _) rfl ?_
    exact ⟨HB.out, .inr (.inl ⟨HCK.out, HCON.out, rfl⟩)⟩
  · have HOK := Lib.hid (okBk_of hck)
    have h128 := (okBk_of hck).ts128
    have HCK := Lib.hid hck
    have HCON := Lib.hid hcon
    have HTW := Lib.hid (show TightW w w1 b nb v (.slice none 0 0) [] from ⟨⟨l, rc, hn.lower (by simp), hsh, hci⟩, Own.nil _ _ _ _ _, by intro i r h; simp at h, by simp at hnb; omega, HB.out⟩)
    clear hn hnb hsh hci hck hcon
    go_wp2_with fail
    go_loopw [19, 6] (fun i o wr => ∃ (k : Nat) (vo : Value) (rs : List Rg), k ≤ b.ts.length ∧ i = .int .i64 k ∧ o = vo ∧ rs.length = k ∧ TightW w wr b nb v vo rs) (fun i _ _ => b.ts.length - (intOf i).toNat)
    case atStart => exact ⟨0, _, [], by omega, rfl, rfl, rfl, HTW.out⟩
    case round =>
      clear HTW x0 x1 hx1
      obtain ⟨k, vo, rs, hk, rfl, rfl, hlen, htw⟩ := hrel
      by_cases hlt : k < b.ts.length
      · have HCA := Lib.hid (htw.call HOK.out k hlt hlen)
        have HLEN := Lib.hid hlen
        clear hlen
        have hbe := htw.below.size
        clear htw
        go_wp2_with fail
        refine HCA.out.mono ?_
        rintro e w1 ⟨lo, hi, rfl, hsz, hown, hfin⟩
        have HFIN := Lib.hid hfin
        have hbase : w.heap.size ≤ w1.heap.size := by omega
        have HBASE := Lib.hid hbase
        have HLK := Lib.hid (show rs.length ≤ 1000000 by rw [HLEN.out]; omega)
        obtain ⟨a', cap', rfl⟩ := hown.shape
        have HOWN := Lib.hid hown
        clear hfin hown
        go_wp2_with (at_builtin; refine wpList_push Rg.enc 2 16 26 24 _ Try.underlying26 Try.infoRg rfl (by decide) (by decide) Rg.enc_len Rg.enc_one rs ⟨lo, hi⟩ w.heap.size w1 _ rfl _ HOWN.out HBASE.out HLK.out rfl _ _ rfl rfl rfl ?_; intro v' w' hown' hg'; have HOW := Lib.hid hown'; have HGR := Lib.hid hg'; clear hown' hg')
        go_roundw
        case rel => exact ⟨k + 1, _, rs ++ [⟨lo, hi⟩], by omega, by go_num, rfl, by simp [HLEN.out], HFIN.out _ _ HOW.out HGR.out⟩
        case measure => simp [intOf]; omega
      · obtain rfl : k = b.ts.length := by omega
        go_wp2_with fail
        refine bodyPost_ret (results_tmp2 rfl _ _ _) rfl ?_
        exact ⟨htw.below, .inr (.inr ⟨HCK.out, HCON.out, _, rs, rfl, htw.own.toSl Rg.enc_len (by omega), hlen, htw.tight⟩)⟩
end Go.Proofs.Ytlakcghdehdeiaa
