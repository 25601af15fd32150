/- Lemmas on the way to the law TopChanges (part 18): Gl Rn -/
import Derived.Test.YtflchbejjofppaaGreatDoorTopChangesP17
import Derived.Test.YtflchbejjofppaaGreatDoorTopChangesP11
set_option linter.unusedVariables false
set_option linter.unusedSimpArgs false

/- Walks: slices.MaxFunc, MinFunc over whole fractions, measure.greatest, least. -/
namespace Go.Proofs.YtflchbejjofppaaGreatDoor.Nu
open Go Go.Proofs Go.RowKit Go.Proofs.YtflchbejjofppaaGreatDoor
def encF (z : Int) : List Value := [.int .i64 z, .slice none 0 0, .int .i64 1, .slice none 0 0]
theorem encF_len (z : Int) : (encF z).length = 4 := rfl
theorem _root_.Go.Proofs.YtflchbejjofppaaGreatDoor.At.c4 {w : World} {b o : Nat} {x y z s : Value} (h : At w b o [x, y, z, s]) : w.cell? ⟨b, o, none⟩ = some x ∧ w.cell? ⟨b, o + 1, none⟩ = some y ∧ w.cell? ⟨b, o + 2, none⟩ = some z ∧ w.cell? ⟨b, o + 3, none⟩ = some s :=
  ⟨h 0 x rfl, h 1 y rfl, h 2 z rfl, h 3 s rfl⟩
def mxL : List Int → Int
  | [] => 0
  | x :: r => r.foldl max x
theorem mxL_snoc {l : List Int} (h : l ≠ []) (x : Int) : mxL (l ++ [x]) = max (mxL l) x := by
  cases l with
  | nil => exact absurd rfl h
  | cons y r => show (r ++ [x]).foldl max y = _; rw [List.foldl_append]; rfl
theorem mxL_sm {l : List Int} (h : l ≠ []) (hl : ∀ z ∈ l, Sm z) : Sm (mxL l) := by
  cases l with
  | nil => exact absurd rfl h
  | cons y r =>
    have hy := hl y List.mem_cons_self
    have hr : ∀ z ∈ r, Sm z := fun z hz => hl z (List.mem_cons_of_mem _ hz)
    show Sm (r.foldl max y)
    clear hl h
    induction r generalizing y with
    | nil => exact hy
    | cons z r ih =>
      have hz := hr z List.mem_cons_self
      refine ih (max y z) ⟨?_, ?_⟩ (fun u hu => hr u (List.mem_cons_of_mem _ hu))
      · have := hy.lo; have := hz.lo; omega
      · have := hy.hi; have := hz.hi; omega
set_option maxRecDepth 100000 in
set_option maxHeartbeats 4000000 in
theorem maxFunc81 (w : World) (v : Value) (l : List Int) (hv : Sl encF 4 w w.heap.size v l) (h0 : l ≠ []) (hl : ∀ z ∈ l, Sm z) : Calls Tryz.prog 81 #[v, .func (.func 54) #[] #[]] w (Ret (.agg #[.int .i64 (mxL l), .slice none 0 0, .int .i64 1, .slice none 0 0]) w) := by
  have HC := Lib.hid (fun (w1 : World) (x m : Int) (hx : Sm x) (hm : Sm m) => scmp54 w1 x m hx hm)
  have HSN := Lib.hid (fun (k : Nat) (hk : k < l.length) (hk0 : 0 < k) => (show mxL (l.take (k + 1)) = max (mxL (l.take k)) l[k] by
    rw [List.take_succ_eq_append_getElem hk]; exact mxL_snoc (by intro e; have := congrArg List.length e; rw [List.length_take, List.length_nil] at this; omega) _))
  have HSM := Lib.hid (fun (k : Nat) (hk : k ≤ l.length) (hk0 : 0 < k) => mxL_sm (l := l.take k) (by intro e; have := congrArg List.length e; rw [List.length_take, List.length_nil] at this; omega) (fun z hz => hl z (List.mem_of_mem_take hz)))
  have HEL := Lib.hid (fun (k : Nat) (hk : k < l.length) => hl _ (List.getElem_mem hk))
  have HEN := Lib.hid (show mxL (l.take l.length) = mxL l by rw [List.take_length])
  have hn0 : 0 < l.length := List.length_pos_iff.2 h0
  have HST := Lib.hid (show mxL (l.take 1) = l[0] by cases l with
    | nil => exact absurd rfl h0
    | cons y r => rfl)
  obtain ⟨a, c, rfl, hlen, hA⟩ := hv
  have HA := Lib.hid hA
  obtain ⟨n, hn⟩ : ∃ n, l.length = n := ⟨_, rfl⟩
  have HN := Lib.hid hn
  rw [hn] at hlen hn0 HEN ⊢
  obtain ⟨b, off, rfl, hbb, hcells⟩ := HA.out (by rw [hn]; exact hn0)
  have HCL := Lib.hid (fun (w1 : World) (hb : Below w.heap.size w w1) (k : Nat) (hk : k < l.length) => ((hcells k hk).below hb hbb).c4)
  obtain ⟨R, hR⟩ : ∃ R, mxL l = R := ⟨_, rfl⟩
  rw [hR] at HEN ⊢
  clear hA hn hl h0 hcells HA hR
  have HB := Lib.hid ((Below.refl w.heap.size w).alloc (Nat.le_refl _) (.cells #[.int .i64 0, .slice none 0 0, .int .i64 0, .slice none 0 0] 83))
  have HZ := Lib.hid (Box.new w #[.int .i64 0, .slice none 0 0, .int .i64 0, .slice none 0 0] 83)
  obtain ⟨z0, z1, z2, z3, zf, zz⟩ := HZ.out.w4
  obtain ⟨y, hy⟩ : ∃ y, l[0]'(by rw [HN.out]; exact hn0) = y := ⟨_, rfl⟩
  rw [hy] at HST
  obtain ⟨c0, c1, c2, c3⟩ := HCL.out _ HB.out 0 (by rw [HN.out]; exact hn0)
  rw [hy] at c0
  simp only [Nat.zero_mul, Nat.add_zero] at c0 c1 c2 c3
  have hbz : b < w.heap.size + 1 := by omega
  clear hy
  go_enter Tryz.func81, Tryz.ntmps81
  go_wp2_with fail
  have HM := Lib.hid (Box.newAt (w.alloc (.cells #[.int .i64 0, .slice none 0 0, .int .i64 0, .slice none 0 0] 83)) #[.int .i64 y, .slice none 0 0, .int .i64 1, .slice none 0 0] 83 (n := w.heap.size + 1) (by simp))
  have HZ1 := Lib.hid (HZ.out.alloc (.cells #[.int .i64 y, .slice none 0 0, .int .i64 1, .slice none 0 0] 83))
  have HB1 := Lib.hid (HB.out.alloc HB.out.size (.cells #[.int .i64 y, .slice none 0 0, .int .i64 1, .slice none 0 0] 83))
  go_loopw [6] (fun i wr => ∃ k : Nat, 0 < k ∧ k ≤ n ∧ i = .int .i64 k ∧ Below w.heap.size w wr ∧ Box wr w.heap.size 83 #[.int .i64 0, .slice none 0 0, .int .i64 0, .slice none 0 0].toList ∧ Box wr (w.heap.size + 1) 83 [.int .i64 (mxL (l.take k)), .slice none 0 0, .int .i64 1, .slice none 0 0]) (fun i _ => n - (intOf i).toNat)
  case atStart => exact ⟨1, by omega, by omega, rfl, HB1.out, HZ1.out, by rw [HST.out]; exact HM.out⟩
  case round =>
    obtain ⟨k, hk0, hk, rfl, hbe, hbz2, hbm⟩ := hrel
    clear HM HZ1 HB1 HZ HB z0 z1 z2 z3 zf zz c0 c1 c2 c3
    have HB := Lib.hid hbe
    have HZ := Lib.hid hbz2
    have HM := Lib.hid hbm
    clear hbz2 hbm
    have hbr : b < wr.heap.size := by have := hbe.size; omega
    obtain ⟨m, hm⟩ : ∃ m, mxL (l.take k) = m := ⟨_, rfl⟩
    rw [hm] at HM
    have hsm : Sm m := by rw [← hm]; exact HSM.out k (by rw [HN.out]; exact hk) hk0
    obtain ⟨m0, m1, m2, m3, mf, mz⟩ := HM.out.w4
    by_cases hlt : k < n
    · have hkl : k < l.length := by rw [HN.out]; exact hlt
      obtain ⟨c0, c1, c2, c3⟩ := HCL.out wr hbe k hkl
      have HS1 := Lib.hid (HSN.out k hkl hk0)
      rw [hm] at HS1
      have hx := HEL.out k hkl
      generalize l[k] = x at *
      have HCX := Lib.hid (fun X : Later wr => HC.out X.w x m hx hsm)
      have hway : (decide (0 < cmpZ x m) = true ∧ max m x = x) ∨ (decide (0 < cmpZ x m) = false ∧ max m x = m) := by
        rcases cmpZ_cases x m with ⟨h, e⟩ | ⟨h, e⟩ | ⟨h, e⟩
        · exact .inr ⟨decide_eq_false (by omega), by omega⟩
        · exact .inr ⟨decide_eq_false (by omega), by omega⟩
        · exact .inl ⟨decide_eq_true (by omega), by omega⟩
      generalize cmpZ x m = q at *
      clear hbe hm hx hsm
      rcases hway with ⟨d0, e⟩ | ⟨d0, e⟩
      · rw [e] at HS1
        clear e
        go_wp2_with fail
        refine wp_region_later (by kernel_rfl) (by kernel_rfl) ?_
        repeat go_big_quiet_step ((go_at_call 54; exact Calls.later (HCX.out _)))
        refine wpQuiet_nil ?_
        rintro w2 ⟨⟨_, hb2⟩, rfl⟩
        obtain ⟨c0', c1', c2', c3'⟩ : w2.cell? ⟨b, off + k * 4, none⟩ = _ ∧ w2.cell? ⟨b, off + k * 4 + 1, none⟩ = _ ∧ w2.cell? ⟨b, off + k * 4 + 2, none⟩ = _ ∧ w2.cell? ⟨b, off + k * 4 + 3, none⟩ = _ := ⟨(hb2.cell (p := ⟨b, _, none⟩) hbr).trans c0, (hb2.cell (p := ⟨b, _, none⟩) hbr).trans c1, (hb2.cell (p := ⟨b, _, none⟩) hbr).trans c2, (hb2.cell (p := ⟨b, _, none⟩) hbr).trans c3⟩
        have hbr2 : b < w2.heap.size := Nat.lt_of_lt_of_le hbr hb2.size
        replace HZ := Lib.hid (HZ.out.later hb2)
        replace HM := Lib.hid (HM.out.later hb2)
        replace HB := Lib.hid (HB.out.trans (hb2.mono HB.out.size))
        clear hb2 m0 m1 m2 m3 mf mz c0 c1 c2 c3 hbr
        obtain ⟨m0, m1, m2, m3, mf, mz⟩ := HM.out.w4
        go_wp2_with fail
        go_roundw
        case rel =>
          refine ⟨k + 1, by omega, by omega, by go_num, ?_, (((HZ.out.other (a := ⟨w.heap.size + 1, 0, none⟩) (.int .i64 x) (by dsimp only; omega)).other (a := ⟨w.heap.size + 1, 1, none⟩) (.slice none 0 0) (by dsimp only; omega)).other (a := ⟨w.heap.size + 1, 2, none⟩) (.int .i64 1) (by dsimp only; omega)).other (a := ⟨w.heap.size + 1, 3, none⟩) (.slice none 0 0) (by dsimp only; omega), by rw [HS1.out]; exact (((HM.out.set 0 (.int .i64 x)).set 1 (.slice none 0 0)).set 2 (.int .i64 1)).set 3 (.slice none 0 0)⟩
          repeat (first | with_reducible exact HB.out | with_reducible exact Below.refl _ _ | refine Below.setCell ?_ (by first | (dsimp only; omega) | (simp; done) | (simp; omega)) _ | refine Below.alloc ?_ (by first | omega | (simp; done) | (simp; omega)) _ | refine Below.drew ?_)
        case measure => simp [intOf]; omega
      · rw [e] at HS1
        clear e
        go_wp2_with fail
        refine wp_region_later (by kernel_rfl) (by kernel_rfl) ?_
        repeat go_big_quiet_step ((go_at_call 54; exact Calls.later (HCX.out _)))
        refine wpQuiet_nil ?_
        rintro w2 ⟨⟨_, hb2⟩, rfl⟩
        replace HZ := Lib.hid (HZ.out.later hb2)
        replace HM := Lib.hid (HM.out.later hb2)
        replace HB := Lib.hid (HB.out.trans (hb2.mono HB.out.size))
        clear hb2 m0 m1 m2 m3 mf mz c0 c1 c2 c3
        go_wp2_with fail
        go_roundw
        case rel => exact ⟨k + 1, by omega, by omega, by go_num, HB.out, HZ.out, by rw [HS1.out]; exact HM.out⟩
        case measure => simp [intOf]; omega
    · obtain rfl : k = n := by omega
      have hmR : m = R := by rw [← hm]; exact HEN.out
      subst hmR
      clear hbe hm
      obtain ⟨z0, z1, z2, z3, zf, zz⟩ := HZ.out.w4
      go_wp2_with fail
      refine bodyPost_ret (v := .agg #[.int .i64 m, .slice none 0 0, .int .i64 1, .slice none 0 0]) (by simp [results, Tryz.results81, go_sem, *]) rfl ?_
      refine Ret.mk rfl ?_
      repeat (first | with_reducible exact HB.out | with_reducible exact Below.refl _ _ | refine Below.setCell ?_ (by first | (dsimp only; omega) | (simp; done) | (simp; omega)) _ | refine Below.alloc ?_ (by first | omega | (simp; done) | (simp; omega)) _ | refine Below.drew ?_)
set_option maxRecDepth 100000 in
set_option maxHeartbeats 1000000 in
theorem greatest52 (w : World) (v : Value) (l : List Int) (hv : Sl encF 4 w w.heap.size v l) (h0 : l ≠ []) (hl : ∀ z ∈ l, Sm z) : Calls Tryz.prog 52 #[v] w (Ret (.agg #[.int .i64 (mxL l), .slice none 0 0, .int .i64 1, .slice none 0 0]) w) := by
  have HC := Lib.hid (fun (w1 : World) (hb : Below w.heap.size w w1) => maxFunc81 w1 v l (hv.later hb) h0 hl)
  obtain ⟨a, c, rfl, _⟩ := hv
  obtain ⟨R, hR⟩ : ∃ R, mxL l = R := ⟨_, rfl⟩
  obtain ⟨n, hn⟩ : ∃ n, l.length = n := ⟨_, rfl⟩
  rw [hR] at HC ⊢
  rw [hn] at HC ⊢
  clear hR hn
  have HB := Lib.hid ((Below.refl w.heap.size w).alloc (Nat.le_refl _) (.cells #[.int .i64 0, .slice none 0 0, .int .i64 0, .slice none 0 0] 83))
  have HZ := Lib.hid (Box.new w #[.int .i64 0, .slice none 0 0, .int .i64 0, .slice none 0 0] 83)
  obtain ⟨z0, z1, z2, z3, zf, zz⟩ := HZ.out.w4
  clear hl h0
  go_enter Tryz.func52, Tryz.ntmps52
  go_wp2_with fail
  refine (HC.out _ HB.out).mono ?_
  rintro e4 w4 ⟨rfl, hb⟩
  replace HB := Lib.hid (HB.out.trans (hb.mono HB.out.size))
  replace HZ := Lib.hid (HZ.out.later hb)
  clear hb z0 z1 z2 z3 zf zz
  obtain ⟨z0, z1, z2, z3, zf, zz⟩ := HZ.out.w4
  go_wp2_with fail
  refine bodyPost_ret (v := .agg #[.int .i64 R, .slice none 0 0, .int .i64 1, .slice none 0 0]) (by simp [results, Tryz.results52, go_sem, *]) rfl ?_
  refine Ret.mk rfl ?_
  repeat (first | exact HB.out | exact Below.refl _ _ | refine Below.setCell ?_ (by first | (dsimp only; omega) | (simp; done) | (simp; omega)) _ | refine Below.alloc ?_ (by first | omega | (simp; done) | (simp; omega)) _ | refine Below.drew ?_)
def mnL : List Int → Int
  | [] => 0
  | x :: r => r.foldl min x
theorem mnL_snoc {l : List Int} (h : l ≠ []) (x : Int) : mnL (l ++ [x]) = min (mnL l) x := by
  cases l with
  | nil => exact absurd rfl h
  | cons y r => show (r ++ [x]).foldl min y = _; rw [List.foldl_append]; rfl
theorem mnL_sm {l : List Int} (h : l ≠ []) (hl : ∀ z ∈ l, Sm z) : Sm (mnL l) := by
  cases l with
  | nil => exact absurd rfl h
  | cons y r =>
    have hy := hl y List.mem_cons_self
    have hr : ∀ z ∈ r, Sm z := fun z hz => hl z (List.mem_cons_of_mem _ hz)
    show Sm (r.foldl min y)
    clear hl h
    induction r generalizing y with
    | nil => exact hy
    | cons z r ih =>
      have hz := hr z List.mem_cons_self
      refine ih (min y z) ⟨?_, ?_⟩ (fun u hu => hr u (List.mem_cons_of_mem _ hu))
      · have := hy.lo; have := hz.lo; omega
      · have := hy.hi; have := hz.hi; omega
set_option maxRecDepth 100000 in
set_option maxHeartbeats 4000000 in
theorem minFunc82 (w : World) (v : Value) (l : List Int) (hv : Sl encF 4 w w.heap.size v l) (h0 : l ≠ []) (hl : ∀ z ∈ l, Sm z) : Calls Tryz.prog 82 #[v, .func (.func 54) #[] #[]] w (Ret (.agg #[.int .i64 (mnL l), .slice none 0 0, .int .i64 1, .slice none 0 0]) w) := by
  have HC := Lib.hid (fun (w1 : World) (x m : Int) (hx : Sm x) (hm : Sm m) => scmp54 w1 x m hx hm)
  have HSN := Lib.hid (fun (k : Nat) (hk : k < l.length) (hk0 : 0 < k) => (show mnL (l.take (k + 1)) = min (mnL (l.take k)) l[k] by
    rw [List.take_succ_eq_append_getElem hk]; exact mnL_snoc (by intro e; have := congrArg List.length e; rw [List.length_take, List.length_nil] at this; omega) _))
  have HSM := Lib.hid (fun (k : Nat) (hk : k ≤ l.length) (hk0 : 0 < k) => mnL_sm (l := l.take k) (by intro e; have := congrArg List.length e; rw [List.length_take, List.length_nil] at this; omega) (fun z hz => hl z (List.mem_of_mem_take hz)))
  have HEL := Lib.hid (fun (k : Nat) (hk : k < l.length) => hl _ (List.getElem_mem hk))
  have HEN := Lib.hid (show mnL (l.take l.length) = mnL l by rw [List.take_length])
  have hn0 : 0 < l.length := List.length_pos_iff.2 h0
  have HST := Lib.hid (show mnL (l.take 1) = l[0] by cases l with
    | nil => exact absurd rfl h0
    | cons y r => rfl)
  obtain ⟨a, c, rfl, hlen, hA⟩ := hv
  have HA := Lib.hid hA
  obtain ⟨n, hn⟩ : ∃ n, l.length = n := ⟨_, rfl⟩
  have HN := Lib.hid hn
  rw [hn] at hlen hn0 HEN ⊢
  obtain ⟨b, off, rfl, hbb, hcells⟩ := HA.out (by rw [hn]; exact hn0)
  have HCL := Lib.hid (fun (w1 : World) (hb : Below w.heap.size w w1) (k : Nat) (hk : k < l.length) => ((hcells k hk).below hb hbb).c4)
  obtain ⟨R, hR⟩ : ∃ R, mnL l = R := ⟨_, rfl⟩
  rw [hR] at HEN ⊢
  clear hA hn hl h0 hcells HA hR
  have HB := Lib.hid ((Below.refl w.heap.size w).alloc (Nat.le_refl _) (.cells #[.int .i64 0, .slice none 0 0, .int .i64 0, .slice none 0 0] 83))
  have HZ := Lib.hid (Box.new w #[.int .i64 0, .slice none 0 0, .int .i64 0, .slice none 0 0] 83)
  obtain ⟨z0, z1, z2, z3, zf, zz⟩ := HZ.out.w4
  obtain ⟨y, hy⟩ : ∃ y, l[0]'(by rw [HN.out]; exact hn0) = y := ⟨_, rfl⟩
  rw [hy] at HST
  obtain ⟨c0, c1, c2, c3⟩ := HCL.out _ HB.out 0 (by rw [HN.out]; exact hn0)
  rw [hy] at c0
  simp only [Nat.zero_mul, Nat.add_zero] at c0 c1 c2 c3
  have hbz : b < w.heap.size + 1 := by omega
  clear hy
  go_enter Tryz.func82, Tryz.ntmps82
  go_wp2_with fail
  have HM := Lib.hid (Box.newAt (w.alloc (.cells #[.int .i64 0, .slice none 0 0, .int .i64 0, .slice none 0 0] 83)) #[.int .i64 y, .slice none 0 0, .int .i64 1, .slice none 0 0] 83 (n := w.heap.size + 1) (by simp))
  have HZ1 := Lib.hid (HZ.out.alloc (.cells #[.int .i64 y, .slice none 0 0, .int .i64 1, .slice none 0 0] 83))
  have HB1 := Lib.hid (HB.out.alloc HB.out.size (.cells #[.int .i64 y, .slice none 0 0, .int .i64 1, .slice none 0 0] 83))
  go_loopw [6] (fun i wr => ∃ k : Nat, 0 < k ∧ k ≤ n ∧ i = .int .i64 k ∧ Below w.heap.size w wr ∧ Box wr w.heap.size 83 #[.int .i64 0, .slice none 0 0, .int .i64 0, .slice none 0 0].toList ∧ Box wr (w.heap.size + 1) 83 [.int .i64 (mnL (l.take k)), .slice none 0 0, .int .i64 1, .slice none 0 0]) (fun i _ => n - (intOf i).toNat)
  case atStart => exact ⟨1, by omega, by omega, rfl, HB1.out, HZ1.out, by rw [HST.out]; exact HM.out⟩
  case round =>
    obtain ⟨k, hk0, hk, rfl, hbe, hbz2, hbm⟩ := hrel
    clear HM HZ1 HB1 HZ HB z0 z1 z2 z3 zf zz c0 c1 c2 c3
    have HB := Lib.hid hbe
    have HZ := Lib.hid hbz2
    have HM := Lib.hid hbm
    clear hbz2 hbm
    have hbr : b < wr.heap.size := by have := hbe.size; omega
    obtain ⟨m, hm⟩ : ∃ m, mnL (l.take k) = m := ⟨_, rfl⟩
    rw [hm] at HM
    have hsm : Sm m := by rw [← hm]; exact HSM.out k (by rw [HN.out]; exact hk) hk0
    obtain ⟨m0, m1, m2, m3, mf, mz⟩ := HM.out.w4
    by_cases hlt : k < n
    · have hkl : k < l.length := by rw [HN.out]; exact hlt
      obtain ⟨c0, c1, c2, c3⟩ := HCL.out wr hbe k hkl
      have HS1 := Lib.hid (HSN.out k hkl hk0)
      rw [hm] at HS1
      have hx := HEL.out k hkl
      generalize l[k] = x at *
      have HCX := Lib.hid (fun X : Later wr => HC.out X.w x m hx hsm)
      have hway : (decide (cmpZ x m < 0) = true ∧ min m x = x) ∨ (decide (cmpZ x m < 0) = false ∧ min m x = m) := by
        rcases cmpZ_cases x m with ⟨h, e⟩ | ⟨h, e⟩ | ⟨h, e⟩
        · exact .inl ⟨decide_eq_true (by omega), by omega⟩
        · exact .inr ⟨decide_eq_false (by omega), by omega⟩
        · exact .inr ⟨decide_eq_false (by omega), by omega⟩
      generalize cmpZ x m = q at *
      clear hbe hm hx hsm
      rcases hway with ⟨d0, e⟩ | ⟨d0, e⟩
      · rw [e] at HS1
        clear e
        go_wp2_with fail
        refine wp_region_later (by kernel_rfl) (by kernel_rfl) ?_
        repeat go_big_quiet_step ((go_at_call 54; exact Calls.later (HCX.out _)))
        refine wpQuiet_nil ?_
        rintro w2 ⟨⟨_, hb2⟩, rfl⟩
        obtain ⟨c0', c1', c2', c3'⟩ : w2.cell? ⟨b, off + k * 4, none⟩ = _ ∧ w2.cell? ⟨b, off + k * 4 + 1, none⟩ = _ ∧ w2.cell? ⟨b, off + k * 4 + 2, none⟩ = _ ∧ w2.cell? ⟨b, off + k * 4 + 3, none⟩ = _ := ⟨(hb2.cell (p := ⟨b, _, none⟩) hbr).trans c0, (hb2.cell (p := ⟨b, _, none⟩) hbr).trans c1, (hb2.cell (p := ⟨b, _, none⟩) hbr).trans c2, (hb2.cell (p := ⟨b, _, none⟩) hbr).trans c3⟩
        have hbr2 : b < w2.heap.size := Nat.lt_of_lt_of_le hbr hb2.size
        replace HZ := Lib.hid (HZ.out.later hb2)
        replace HM := Lib.hid (HM.out.later hb2)
        replace HB := Lib.hid (HB.out.trans (hb2.mono HB.out.size))
        clear hb2 m0 m1 m2 m3 mf mz c0 c1 c2 c3 hbr
        obtain ⟨m0, m1, m2, m3, mf, mz⟩ := HM.out.w4
        go_wp2_with fail
        go_roundw
        case rel =>
          refine ⟨k + 1, by omega, by omega, by go_num, ?_, (((HZ.out.other (a := ⟨w.heap.size + 1, 0, none⟩) (.int .i64 x) (by dsimp only; omega)).other (a := ⟨w.heap.size + 1, 1, none⟩) (.slice none 0 0) (by dsimp only; omega)).other (a := ⟨w.heap.size + 1, 2, none⟩) (.int .i64 1) (by dsimp only; omega)).other (a := ⟨w.heap.size + 1, 3, none⟩) (.slice none 0 0) (by dsimp only; omega), by rw [HS1.out]; exact (((HM.out.set 0 (.int .i64 x)).set 1 (.slice none 0 0)).set 2 (.int .i64 1)).set 3 (.slice none 0 0)⟩
          repeat (first | with_reducible exact HB.out | with_reducible exact Below.refl _ _ | refine Below.setCell ?_ (by first | (dsimp only; omega) | (simp; done) | (simp; omega)) _ | refine Below.alloc ?_ (by first | omega | (simp; done) | (simp; omega)) _ | refine Below.drew ?_)
        case measure => simp [intOf]; omega
      · rw [e] at HS1
        clear e
        go_wp2_with fail
        refine wp_region_later (by kernel_rfl) (by kernel_rfl) ?_
        repeat go_big_quiet_step ((go_at_call 54; exact Calls.later (HCX.out _)))
        refine wpQuiet_nil ?_
        rintro w2 ⟨⟨_, hb2⟩, rfl⟩
        replace HZ := Lib.hid (HZ.out.later hb2)
        replace HM := Lib.hid (HM.out.later hb2)
        replace HB := Lib.hid (HB.out.trans (hb2.mono HB.out.size))
        clear hb2 m0 m1 m2 m3 mf mz c0 c1 c2 c3
        go_wp2_with fail
        go_roundw
        case rel => exact ⟨k + 1, by omega, by omega, by go_num, HB.out, HZ.out, by rw [HS1.out]; exact HM.out⟩
        case measure => simp [intOf]; omega
    · obtain rfl : k = n := by omega
      have hmR : m = R := by rw [← hm]; exact HEN.out
      subst hmR
      clear hbe hm
      obtain ⟨z0, z1, z2, z3, zf, zz⟩ := HZ.out.w4
      go_wp2_with fail
      refine bodyPost_ret (v := .agg #[.int .i64 m, .slice none 0 0, .int .i64 1, .slice none 0 0]) (by simp [results, Tryz.results82, go_sem, *]) rfl ?_
      refine Ret.mk rfl ?_
      repeat (first | with_reducible exact HB.out | with_reducible exact Below.refl _ _ | refine Below.setCell ?_ (by first | (dsimp only; omega) | (simp; done) | (simp; omega)) _ | refine Below.alloc ?_ (by first | omega | (simp; done) | (simp; omega)) _ | refine Below.drew ?_)
set_option maxRecDepth 100000 in
set_option maxHeartbeats 1000000 in
theorem least53 (w : World) (v : Value) (l : List Int) (hv : Sl encF 4 w w.heap.size v l) (h0 : l ≠ []) (hl : ∀ z ∈ l, Sm z) : Calls Tryz.prog 53 #[v] w (Ret (.agg #[.int .i64 (mnL l), .slice none 0 0, .int .i64 1, .slice none 0 0]) w) := by
  have HC := Lib.hid (fun (w1 : World) (hb : Below w.heap.size w w1) => minFunc82 w1 v l (hv.later hb) h0 hl)
  obtain ⟨a, c, rfl, _⟩ := hv
  obtain ⟨R, hR⟩ : ∃ R, mnL l = R := ⟨_, rfl⟩
  obtain ⟨n, hn⟩ : ∃ n, l.length = n := ⟨_, rfl⟩
  rw [hR] at HC ⊢
  rw [hn] at HC ⊢
  clear hR hn
  have HB := Lib.hid ((Below.refl w.heap.size w).alloc (Nat.le_refl _) (.cells #[.int .i64 0, .slice none 0 0, .int .i64 0, .slice none 0 0] 83))
  have HZ := Lib.hid (Box.new w #[.int .i64 0, .slice none 0 0, .int .i64 0, .slice none 0 0] 83)
  obtain ⟨z0, z1, z2, z3, zf, zz⟩ := HZ.out.w4
  clear hl h0
  go_enter Tryz.func53, Tryz.ntmps53
  go_wp2_with fail
  refine (HC.out _ HB.out).mono ?_
  rintro e4 w4 ⟨rfl, hb⟩
  replace HB := Lib.hid (HB.out.trans (hb.mono HB.out.size))
  replace HZ := Lib.hid (HZ.out.later hb)
  clear hb z0 z1 z2 z3 zf zz
  obtain ⟨z0, z1, z2, z3, zf, zz⟩ := HZ.out.w4
  go_wp2_with fail
  refine bodyPost_ret (v := .agg #[.int .i64 R, .slice none 0 0, .int .i64 1, .slice none 0 0]) (by simp [results, Tryz.results53, go_sem, *]) rfl ?_
  refine Ret.mk rfl ?_
  repeat (first | exact HB.out | exact Below.refl _ _ | refine Below.setCell ?_ (by first | (dsimp only; omega) | (simp; done) | (simp; omega)) _ | refine Below.alloc ?_ (by first | omega | (simp; done) | (simp; omega)) _ | refine Below.drew ?_)
end Go.Proofs.YtflchbejjofppaaGreatDoor.Nu
/- A region that draws its order, of whose head operations one stores; those that must come before it are quiet in every world that has grown, those that may come behind it are extracts. -/
namespace Go
open Go.RowKit
section
theorem yields_extractC {P : Program} {ops : Array Oper} {o : Oper} {x : Operand} {k : Nat} (ho : o.op = .extract x k) {C C2 : World → Prop} {W : World} (hW : C W) {v : Value} {a : Act} (h : YieldsIn P ops C o v a) : YieldsIn P ops C2 o v a := by
  rcases h with ⟨h1, h2⟩ | h
  · refine .inl ⟨h1, ?_⟩
    intro w _
    have h3 := h2 W hW
    clear h2 h1
    unfold Oper.quietAt execOp at *
    rw [ho] at h3 ⊢
    simp only [Instr.extract] at h3 ⊢
    generalize a.eval x = y at *
    cases y with
    | tuple vs =>
      simp only at h3 ⊢
      cases hv : vs[k]? with
      | some u =>
        rw [hv] at h3
        simp [Oper.quietUpon] at h3 ⊢
        exact h3
      | none => rw [hv] at h3; simp [Oper.quietUpon, stuck] at h3
    | _ => simp [Oper.quietUpon, stuck] at h3
  · exact .inr h
structure StoreFlow (ops : Array Oper) (n b : Nat) (ob : Oper) (W : World) (a0 A : Act) (D : World → Prop) (listed : Array Bool) (a : Act) (w : World) : Prop where
  inv : HeadInv .any ops n listed
  later : listed.getD b false = false → Below W.heap.size W w
  size : a.tmps.size = a0.tmps.size
  defers : a.defers = a0.defers
  slot : ∀ j o t, j < n → ops[j]? = some o → o.dst = some t → j ≠ b → a.tmps[t]? = if listed.getD j false = true then A.tmps[t]? else a0.tmps[t]?
  slotb : ∀ t, ob.dst = some t → a.tmps[t]? = if listed.getD b false = true then a0.tmps[t]?.map (fun _ => undef) else a0.tmps[t]?
  other : ∀ t, (∀ j o, j < n → ops[j]? = some o → o.dst ≠ some t) → a.tmps[t]? = a0.tmps[t]?
  box : listed.getD b false = true → D w
variable {P : Program} {l : List Oper} {n b : Nat} {ob : Oper} {W : World} {a0 A : Act} {D : World → Prop} {Q : Exit → Act → World → Prop}
theorem storegrow_run (hB : Region.flowB l.toArray n b = true) (hob : l[b]? = some ob)
    (hq : ∀ Y : Later W, wpQuiet P l.toArray (fun w' => ∃ X : Later2 Y, w' = X.w) (fun a' => a' = A) (headsOf l n b) a0)
    (hfree : ∀ i o, i < n → i ≠ b → l[i]? = some o → Region.waitsFor .any l.toArray b i = false → ∃ x k, o.op = .extract x k)
    (hb : ∀ w, Below W.heap.size W w → ∃ w', (execOp A.eval ob).run P w = .ok .skip w' ∧ D w')
    (ht : ∀ w, D w → wpList P l.toArray Q (l.drop n) (A.put ob.dst undef) w) :
    ∀ (f : Nat) (U : List Nat) (listed : Array Bool) (a : Act) (w : World), U.length = f → U.Nodup → (∀ i, i ∈ U ↔ i < n ∧ listed.getD i false = false) →
      StoreFlow l.toArray n b ob W a0 A D listed a w → wpAny P .any l.toArray Q (f + (l.toArray.size - n)) listed a w := by
  simp only [Region.flowB, Bool.and_eq_true, decide_eq_true_eq, List.all_eq_true, List.mem_range] at hB
  obtain ⟨⟨⟨⟨⟨⟨⟨⟨⟨hsel, hn⟩, hbn⟩, hsink⟩, hchain⟩, hseq⟩, hedge⟩, hpair⟩, hguard⟩, hblind⟩ := hB
  have hn' : n ≤ l.length := by have h := hn; rw [List.size_toArray] at h; omega
  have hsz : l.toArray.size = l.length := by simp
  have hget : ∀ i : Nat, l.toArray[i]? = l[i]? := fun i => by simp
  have hselect := Region.noSelect_spec hsel
  have hpw : (headsOf l n b).Pairwise (fun o o' => ∀ t, o.dst = some t → o'.dst ≠ some t) := by
    rw [List.pairwise_iff_getElem]
    intro i j hi hj hij t ht
    obtain ⟨i', h1, h2, h3, h4⟩ := headsOf_from hbn hn' (List.getElem?_eq_getElem hi)
    obtain ⟨j', k1, k2, k3, k4⟩ := headsOf_from hbn hn' (List.getElem?_eq_getElem hj)
    exact Region.flowPair_dst (hpair i' h1 j' k1) (by rw [hget]; exact h3) (by rw [hget]; exact k3) (fun e => by subst e; omega) ht
  have hA := quiet_text _ _ (hq ⟨W, Below.refl _ _⟩) hpw
  have hAo : ∀ t, (∀ j o, j < n → l.toArray[j]? = some o → j ≠ b → o.dst ≠ some t) → A.tmps[t]? = a0.tmps[t]? := fun t h => hA.1 t fun o ho => by
    obtain ⟨q, hq'⟩ := List.mem_iff_getElem?.1 ho
    obtain ⟨j, h1, h2, h3, _⟩ := headsOf_from hbn hn' hq'
    exact h j o h1 (by rw [hget]; exact h3) h2
  have hAs := hA.2.1
  have hAd := hA.2.2.1
  have hobA : l.toArray[b]? = some ob := by rw [hget]; exact hob
  intro f
  induction f with
  | zero =>
    intro U listed a w hU _ hUm hF
    obtain rfl : U = [] := List.eq_nil_of_length_eq_zero hU
    have hall : ∀ i, i < n → listed.getD i false = true := fun i hi => by
      cases h : listed.getD i false with
      | true => rfl
      | false => have := (hUm i).2 ⟨hi, h⟩; simp at this
    have hl : listed = Region.marked l.toArray.size n := by
      apply Array.ext_getElem?
      intro i
      by_cases hi : i < l.toArray.size
      · have hil : i < listed.size := by rw [hF.inv.size]; exact hi
        have e2 : (Region.marked l.toArray.size n)[i]? = some (decide (i < n)) := by
          rw [List.size_toArray] at hi
          unfold Region.marked
          simp [hi]
        rw [e2, Array.getElem?_eq_getElem hil]
        by_cases hin : i < n
        · have := hall i hin
          simp [hil] at this
          simp [this, hin]
        · have := hF.inv.tail i (by omega) hi
          simp [hil] at this
          simp [this, hin]
      · rw [Array.getElem?_eq_none (by rw [hF.inv.size]; omega), Array.getElem?_eq_none (by rw [List.size_toArray] at hi; unfold Region.marked; simp; omega)]
    have hbt := hall b hbn
    have ha : a = A.put ob.dst undef := by
      have htm : a.tmps = (A.put ob.dst undef).tmps := by
        apply Array.ext_getElem?
        intro t
        rw [put_get]
        by_cases hbd : ob.dst = some t
        · rw [if_pos hbd, hF.slotb t hbd, if_pos hbt]
          by_cases h : t < a0.tmps.size
          · rw [Array.getElem?_eq_getElem h, Array.getElem?_eq_getElem (by rw [hAs]; exact h)]; rfl
          · rw [Array.getElem?_eq_none (by omega), Array.getElem?_eq_none (by rw [hAs]; omega)] <;> rfl
        · rw [if_neg hbd]
          by_cases h : ∃ j o, j < n ∧ l.toArray[j]? = some o ∧ o.dst = some t
          · obtain ⟨j, o, h1, h2, h3⟩ := h
            have hjb : j ≠ b := fun e => by subst e; rw [hobA] at h2; cases h2; exact hbd h3
            rw [hF.slot j o t h1 h2 h3 hjb, if_pos (hall j h1)]
          · have h' : ∀ j o, j < n → l.toArray[j]? = some o → o.dst ≠ some t := fun j o h1 h2 h3 => h ⟨j, o, h1, h2, h3⟩
            rw [hF.other t h', hAo t fun j o h1 h2 _ => h' j o h1 h2]
      have hd : a.defers = (A.put ob.dst undef).defers := by rw [put_defers, hAd, hF.defers]
      cases a; simp only at htm hd; cases hX : A.put ob.dst undef; rw [hX] at htm hd; simp only at htm hd; rw [htm, hd]
    rw [ha]
    have hdl : (l.drop n).length = l.toArray.size - n := by simp
    have := wpAny_of_seq (md := .any) (Q' := Q) (ops := l.toArray) (l.drop n) n listed (A.put ob.dst undef) w (fun j => by simp [List.getElem?_drop]) (by rw [hdl, hl]; exact hseq) (ht w (hF.box hbt))
    rw [hdl] at this
    rwa [Nat.zero_add]
  | succ f ih =>
    intro U listed a w hU hnd hUm hF
    obtain ⟨i0, hi0, hleast⟩ := exists_leastM U (fun e => by rw [e] at hU; simp at hU)
    obtain ⟨hi0n, hi0u⟩ := (hUm i0).1 hi0
    have hin : ∀ i, i < n → i < listed.size := fun i hi => by rw [hF.inv.size]; omega
    have hready : i0 ∈ Region.ready .any l.toArray listed := by
      have hlt : i0 < l.toArray.size := by omega
      refine mem_ready.2 ⟨getD_in (hin _ hi0n) hi0u, l.toArray[i0], Array.getElem?_eq_getElem hlt, fun e he hbd => ?_⟩
      have h1 := hedge i0 hi0n
      rw [Array.getElem?_eq_getElem hlt] at h1
      simp only [Array.all_eq_true_iff_forall_mem] at h1
      have h2 := h1 e he
      simp only [hbd, Bool.not_true, Bool.false_or, decide_eq_true_eq] at h2
      cases h : listed.getD e.on false with
      | true => rfl
      | false =>
        have := hleast e.on ((hUm e.on).2 ⟨by omega, h⟩)
        omega
    rw [show f + 1 + (l.toArray.size - n) = (f + (l.toArray.size - n)) + 1 by omega]
    refine ⟨fun h => (by rw [h] at hready; cases hready), fun i hi => ?_⟩
    obtain ⟨hiu, o, ho, hdep⟩ := mem_ready.1 hi
    have hilt : i < n := Nat.lt_of_not_le fun h => tail_waits hsink hchain hn hF.inv _ i0 rfl hi0n (getD_in (hin _ hi0n) hi0u) i h hi
    have hiU : i ∈ U := (hUm i).2 ⟨hilt, getD_both hiu⟩
    have hinv := hF.inv.set hi hilt
    have hlist : ∀ j, (listed.setIfInBounds i true).getD j false = if j = i then true else listed.getD j false := fun j => by
      by_cases h : j = i
      · subst h; rw [if_pos rfl]; simp [hin j hilt]
      · rw [if_neg h, getD_set_ne false (Ne.symm h)]
    have hUm' : ∀ j, j ∈ U.erase i ↔ j < n ∧ (listed.setIfInBounds i true).getD j false = false := fun j => by
      rw [hnd.mem_erase_iff, hUm j, hlist j]
      by_cases h : j = i
      · simp [h]
      · simp [h]
    have hlen' : (U.erase i).length = f := by rw [List.length_erase_of_mem hiU]; omega
    have hnd' := hnd.erase i
    have hseen : ∀ t ∈ o.looksAt l.toArray, ∀ j oj, j < n → l.toArray[j]? = some oj → oj.dst = some t → i ≠ j ∧ j < i ∧ listed.getD j false = true := by
      intro t ht j oj hj hoj hd
      have hne : i ≠ j := fun e => by
        subst e
        rw [ho] at hoj; cases hoj
        exact Region.flowPair_self (hpair i hilt i hilt) ho hd ht
      have h1 := Region.flowPair_looks (hpair i hilt j hj) ho hoj hne hd ht
      obtain ⟨o', ho', e, he, hbd, hon⟩ := Region.waitsFor_spec h1.2
      rw [ho] at ho'; cases ho'
      have := hdep e he hbd
      rw [hon] at this
      exact ⟨hne, h1.1, this⟩
    by_cases hib : i = b
    · subst hib
      rw [hobA] at ho; cases ho
      have hg : ob.guard = none := by rw [hobA] at hguard; simpa using hguard
      obtain ⟨w', hrun, hD⟩ := hb w (hF.later (getD_both hiu))
      have hex : execOp a.eval ob = execOp A.eval ob := (seen_alike (ops := l.toArray) (fun cs bb => hselect i ob cs bb hobA) fun t htl => by
        by_cases h : ∃ j o, j < n ∧ l.toArray[j]? = some o ∧ o.dst = some t
        · obtain ⟨j, oj, h1, h2, h3⟩ := h
          obtain ⟨k1, k2, k3⟩ := hseen t htl j oj h1 h2 h3
          rw [hF.slot j oj t h1 h2 h3 (Ne.symm k1), if_pos k3]
        · have h' : ∀ j o, j < n → l.toArray[j]? = some o → o.dst ≠ some t := fun j o h1 h2 h3 => h ⟨j, o, h1, h2, h3⟩
          rw [hF.other t h', hAo t fun j o h1 h2 _ => h' j o h1 h2]).1
      unfold wpOp
      simp only [hobA]
      rw [if_pos (by simp [Region.wanted, hg])]
      refine .inl ?_
      unfold Oper.wp
      rw [hex, hrun]
      simp only [Oper.upon_skip]
      refine ih (U.erase i) _ _ _ hlen' hnd' hUm' ⟨hinv, fun h => (by rw [hlist i, if_pos rfl] at h; cases h), by rw [put_size, hF.size], by rw [put_defers, hF.defers], ?_, ?_, ?_, fun _ => hD⟩
      · intro j oj t hj hoj hd hjb
        have hne : ob.dst ≠ some t := fun h => Region.flowPair_dst (hpair i hilt j hj) hobA hoj (Ne.symm hjb) h hd
        rw [put_get, if_neg hne, hF.slot j oj t hj hoj hd hjb, hlist j, if_neg hjb]
      · intro t hd
        rw [put_get, if_pos hd, hlist i, if_pos rfl, if_pos rfl, hF.slotb t hd, if_neg (by rw [getD_both hiu]; simp)]
      · intro t h
        rw [put_get, if_neg (h i ob hilt hobA), hF.other t h]
    · have hpos := headsOf_get hbn hn' hilt hib
      have hol : l[i]? = some o := by rw [← hget]; exact ho
      rw [hol] at hpos
      have hsplit : headsOf l n b = (headsOf l n b).take (posOf b i) ++ o :: (headsOf l n b).drop (posOf b i + 1) := by
        have hlt := (List.getElem?_eq_some_iff.1 hpos).1
        have e := (List.getElem?_eq_some_iff.1 hpos).2
        rw [← e, ← List.drop_eq_getElem_cons hlt, List.take_append_drop]
      obtain ⟨Y0, hY0⟩ : ∃ Y0 : Later W, (listed.getD b false = false → Y0.w = w) := by
        cases h : listed.getD b false with
        | false => exact ⟨⟨w, hF.later h⟩, fun _ => rfl⟩
        | true => exact ⟨⟨W, Below.refl _ _⟩, fun h => by cases h⟩
      obtain ⟨_, _, _, htext⟩ := quiet_text _ _ (hq Y0) hpw
      obtain ⟨ai, v, hy, t1, t2, t3⟩ := htext _ o _ hsplit
      have hal := seen_alike (ops := l.toArray) (o := o) (a := a) (a' := ai) (fun cs bb => hselect i o cs bb ho) fun t htl => by
        by_cases h : ∃ j o, j < n ∧ l.toArray[j]? = some o ∧ o.dst = some t
        · obtain ⟨j, oj, h1, h2, h3⟩ := h
          obtain ⟨k1, k2, k3⟩ := hseen t htl j oj h1 h2 h3
          by_cases hjb : j = b
          · -- nobody else looks at b's yield
            subst hjb
            have h4 := hblind i hilt
            simp only [Bool.or_eq_true, beq_iff_eq, hib, false_or] at h4
            exact absurd htl (Region.blindTo_spec h4 ho h2 h3)
          · rw [hF.slot j oj t h1 h2 h3 hjb, if_pos k3]
            refine (t1 t ⟨oj, ?_, h3⟩).symm
            have hjp := headsOf_get hbn hn' h1 hjb
            rw [← hget, h2] at hjp
            refine List.mem_of_getElem? (i := posOf b j) ?_
            rw [List.getElem?_take, if_pos (by unfold posOf; split <;> split <;> omega)]
            exact hjp
        · have h' : ∀ j o, j < n → l.toArray[j]? = some o → o.dst ≠ some t := fun j o h1 h2 h3 => h ⟨j, o, h1, h2, h3⟩
          rw [hF.other t h']
          refine (t2 t fun p hp => ?_).symm
          obtain ⟨q, hq'⟩ := List.mem_iff_getElem?.1 (List.mem_of_mem_take hp)
          obtain ⟨j, h1, h2, h3, _⟩ := headsOf_from hbn hn' hq'
          exact h' j p h1 (by rw [hget]; exact h3)
      have hy0 := hy.of_same hal.1 hal.2
      obtain ⟨C, hCw, hC, hy'⟩ : ∃ C : World → Prop, C w ∧ (∀ w', C w' → (listed.getD b false = false → Below W.heap.size W w') ∧ (listed.getD b false = true → w' = w)) ∧ YieldsIn P l.toArray C o v a := by
        cases h : listed.getD b false with
        | false =>
          obtain rfl := hY0 h
          exact ⟨_, ⟨⟨Y0.w, Below.refl _ _⟩, rfl⟩, fun w' ⟨X, hX⟩ => ⟨fun _ => by rw [hX]; exact Y0.h.trans (X.h.mono Y0.h.size), fun h => by cases h⟩, hy0⟩
        | true =>
          refine ⟨fun w' => w' = w, rfl, fun w' h => ⟨fun h => (by cases h), fun _ => h⟩, ?_⟩
          have hwf : Region.waitsFor .any l.toArray b i = false := by
            cases hwf : Region.waitsFor .any l.toArray b i with
            | false => rfl
            | true =>
              obtain ⟨o', ho', e, he, hbd, hon⟩ := Region.waitsFor_spec hwf
              have h2 := hF.inv.closed b o' ho' h e he hbd
              rw [hon, getD_both hiu] at h2
              cases h2
          obtain ⟨x, k, hx⟩ := hfree i o hilt hib hol hwf
          exact yields_extractC hx ⟨⟨Y0.w, Below.refl _ _⟩, rfl⟩ hy0
      have hqo := hy'.qOp (K := fun a' => a' = a.put o.dst v) ho rfl
      refine wpOp_of_qOp hCw ?_ hqo
      rintro a' w' hw' rfl
      obtain ⟨hc1, hc2⟩ := hC w' hw'
      refine ih (U.erase i) _ _ _ hlen' hnd' hUm' ⟨hinv, ?_, by rw [put_size, hF.size], by rw [put_defers, hF.defers], ?_, ?_, ?_, ?_⟩
      · rw [hlist b, if_neg (Ne.symm hib)]
        exact hc1
      · intro j oj t hj hoj hd hjb
        rw [put_get, hlist j]
        by_cases hji : j = i
        · subst hji
          rw [ho] at hoj; cases hoj
          rw [if_pos hd, if_pos rfl, if_pos rfl, hF.slot j o t hj ho hd hjb, if_neg (by rw [getD_both hiu]; simp), t3 t hd]
        · have hne : o.dst ≠ some t := fun h => Region.flowPair_dst (hpair i hilt j hj) ho hoj (Ne.symm hji) h hd
          rw [if_neg hne, if_neg hji, hF.slot j oj t hj hoj hd hjb]
      · intro t hd
        have hne : o.dst ≠ some t := fun h => Region.flowPair_dst (hpair i hilt b hbn) ho hobA hib h hd
        rw [put_get, if_neg hne, hF.slotb t hd, hlist b, if_neg (Ne.symm hib)]
      · intro t h
        rw [put_get, if_neg (h i o hilt ho), hF.other t h]
      · intro h
        rw [hlist b, if_neg (Ne.symm hib)] at h
        rw [hc2 h]
        exact hF.box h
theorem wp_region_storegrow {id : Nat} (n b : Nat) (ob : Oper) (D : World → Prop) (hm : P.follows .mixedOrders = true) (hB : Region.flowB l.toArray n b = true) (hob : l[b]? = some ob)
    (hfree : ∀ i o, i < n → i ≠ b → l[i]? = some o → Region.waitsFor .any l.toArray b i = false → ∃ x k, o.op = .extract x k)
    (hh : ∃ A, (∀ Y : Later W, wpQuiet P l.toArray (fun w' => ∃ X : Later2 Y, w' = X.w) (fun a' => a' = A) (headsOf l n b) a0) ∧
      (∀ w, Below W.heap.size W w → ∃ w', (execOp A.eval ob).run P w = .ok .skip w' ∧ D w') ∧
        ∀ w, D w → wpList P l.toArray Q (l.drop n) (A.put ob.dst undef) w) :
    (Code.region id l.toArray true).wp P Q a0 W := by
  obtain ⟨A, hq, hb, ht⟩ := hh
  refine wp_region_any hm ?_
  have hB' := hB
  simp only [Region.flowB, Bool.and_eq_true, decide_eq_true_eq] at hB'
  have hn := hB'.1.1.1.1.1.1.1.1.2
  have inv0 : HeadInv .any l.toArray n (Array.replicate l.toArray.size false) :=
    ⟨by simp, fun j oj _ hl => (by rw [getD_replicate_false] at hl; cases hl), fun t _ ht => getD_in (by simpa using ht) (getD_replicate_false _ _)⟩
  have h := storegrow_run (W := W) (a0 := a0) (A := A) (D := D) (Q := Q) hB hob hq hfree hb ht n (List.range n) (Array.replicate l.toArray.size false) a0 { W with drawn := W.drawn + 1 } (by simp) List.nodup_range (fun i => by rw [List.mem_range]; exact ⟨fun h => ⟨h, getD_replicate_false _ _⟩, fun h => h.1⟩)
    ⟨inv0, fun _ => ⟨rfl, rfl, rfl, Nat.le_refl _, fun _ _ => rfl⟩, rfl, rfl, fun j o t _ _ _ _ => by rw [getD_replicate_false]; rfl, fun t _ => by rw [getD_replicate_false]; rfl, fun _ _ => rfl, fun h => by rw [getD_replicate_false] at h; cases h⟩
  rwa [show n + (l.toArray.size - n) = l.toArray.size by omega] at h
theorem storegrow_free {l : List Oper} {n b : Nat} (f : Nat) {of : Oper} {x : Operand} {k : Nat} (hall : (List.range n).all (fun i => i == f || (i == b || Region.waitsFor .any l.toArray b i)) = true) (hf : l[f]? = some of) (ho : of.op = .extract x k) :
    ∀ i o, i < n → i ≠ b → l[i]? = some o → Region.waitsFor .any l.toArray b i = false → ∃ x k, o.op = .extract x k := by
  intro i o hi hne hio hw
  have h1 := List.all_eq_true.1 hall i (List.mem_range.2 hi)
  rw [hw, Bool.or_false, Bool.or_eq_true, beq_iff_eq, beq_iff_eq] at h1
  rcases h1 with rfl | h1
  · rw [hf] at hio
    injection hio with hio
    subst hio
    exact ⟨x, k, ho⟩
  · exact absurd h1 hne
end
end Go
