/- Lemmas on the way to the law TopScales (part 16): Gl Rp Rq -/
import Derived.Test.YtflchbejjofppaaGreatDoorTopScalesP15
import Derived.Test.YtflchbejjofppaaGreatDoorTopScalesP10
set_option linter.unusedVariables false
set_option linter.unusedSimpArgs false

/- Walks: slices.MaxFunc, MinFunc over whole fractions, measure.greatest, least. -/
namespace Go.Proofs.YtflchbejjofppaaGreatDoor.Nu
open Go Go.Proofs Go.RowKit Go.Proofs.YtflchbejjofppaaGreatDoor
def encF (z : Int) : List Value := [.int .i64 z, .slice none 0 0, .int .i64 1, .slice none 0 0]
theorem encF_len (z : Int) : (encF z).length = 4 := rfl
theorem _root_.Go.Proofs.YtflchbejjofppaaGreatDoor.At.c4 {w : World} {b o : Nat} {x y z s : Value} (h : At w b o [x, y, z, s]) : w.cell? ⟨b, o, none⟩ = some x ∧ w.cell? ⟨b, o + 1, none⟩ = some y ∧ w.cell? ⟨b, o + 2, none⟩ = some z ∧ w.cell? ⟨b, o + 3, none⟩ = some s :=
  ⟨h 0 x rfl, h 1 y rfl, h 2 z rfl, h 3 s rfl⟩
def mxL : List Int → Int
  | [] => 0
  | x :: r => r.foldl max x
theorem mxL_snoc {l : List Int} (h : l ≠ []) (x : Int) : mxL (l ++ [x]) = max (mxL l) x := by
  cases l with
  | nil => exact absurd rfl h
  | cons y r => show (r ++ [x]).foldl max y = _; rw [List.foldl_append]; rfl
theorem mxL_sm {l : List Int} (h : l ≠ []) (hl : ∀ z ∈ l, Sm z) : Sm (mxL l) := by
  cases l with
  | nil => exact absurd rfl h
  | cons y r =>
    have hy := hl y List.mem_cons_self
    have hr : ∀ z ∈ r, Sm z := fun z hz => hl z (List.mem_cons_of_mem _ hz)
    show Sm (r.foldl max y)
    clear hl h
    induction r generalizing y with
    | nil => exact hy
    | cons z r ih =>
      have hz := hr z List.mem_cons_self
      refine ih (max y z) ⟨?_, ?_⟩ (fun u hu => hr u (List.mem_cons_of_mem _ hu))
      · have := hy.lo; have := hz.lo; omega
      · have := hy.hi; have := hz.hi; omega
set_option maxRecDepth 100000 in
set_option maxHeartbeats 4000000 in
theorem maxFunc81 (w : World) (v : Value) (l : List Int) (hv : Sl encF 4 w w.heap.size v l) (h0 : l ≠ []) (hl : ∀ z ∈ l, Sm z) : Calls Tryz.prog 81 #[v, .func (.func 54) #[] #[]] w (Ret (.agg #[.int .i64 (mxL l), .slice none 0 0, .int .i64 1, .slice none 0 0]) w) := by
  have HC := Lib.hid (fun (w1 : World) (x m : Int) (hx : Sm x) (hm : Sm m) => scmp54 w1 x m hx hm)
  have HSN := Lib.hid (fun (k : Nat) (hk : k < l.length) (hk0 : 0 < k) => (show mxL (l.take (k + 1)) = max (mxL (l.take k)) l[k] by
    rw [List.take_succ_eq_append_getElem hk]; exact mxL_snoc (by intro e; have := congrArg List.length e; rw [List.length_take, List.length_nil] at this; omega) _))
  have HSM := Lib.hid (fun (k : Nat) (hk : k ≤ l.length) (hk0 : 0 < k) => mxL_sm (l := l.take k) (by intro e; have := congrArg List.length e; rw [List.length_take, List.length_nil] at this; omega) (fun z hz => hl z (List.mem_of_mem_take hz)))
  have HEL := Lib.hid (fun (k : Nat) (hk : k < l.length) => hl _ (List.getElem_mem hk))
  have HEN := Lib.hid (show mxL (l.take l.length) = mxL l by rw [List.take_length])
  have hn0 : 0 < l.length := List.length_pos_iff.2 h0
  have HST := Lib.hid (show mxL (l.take 1) = l[0] by cases l with
    | nil => exact absurd rfl h0
    | cons y r => rfl)
  obtain ⟨a, c, rfl, hlen, hA⟩ := hv
  have HA := Lib.hid hA
  obtain ⟨n, hn⟩ : ∃ n, l.length = n := ⟨_, rfl⟩
  have HN := Lib.hid hn
  rw [hn] at hlen hn0 HEN ⊢
  obtain ⟨b, off, rfl, hbb, hcells⟩ := HA.out (by rw [hn]; exact hn0)
  have HCL := Lib.hid (fun (w1 : World) (hb : Below w.heap.size w w1) (k : Nat) (hk : k < l.length) => ((hcells k hk).below hb hbb).c4)
  obtain ⟨R, hR⟩ : ∃ R, mxL l = R := ⟨_, rfl⟩
  rw [hR] at HEN ⊢
  clear hA hn hl h0 hcells HA hR
  have HB := Lib.hid ((Below.refl w.heap.size w).alloc (Nat.le_refl _) (.cells #[.int .i64 0, .slice none 0 0, .int .i64 0, .slice none 0 0] 83))
  have HZ := Lib.hid (Box.new w #[.int .i64 0, .slice none 0 0, .int .i64 0, .slice none 0 0] 83)
  obtain ⟨z0, z1, z2, z3, zf, zz⟩ := HZ.out.w4
  obtain ⟨y, hy⟩ : ∃ y, l[0]'(by rw [HN.out]; exact hn0) = y := ⟨_, rfl⟩
  rw [hy] at HST
  obtain ⟨c0, c1, c2, c3⟩ := HCL.out _ HB.out 0 (by rw [HN.out]; exact hn0)
  rw [hy] at c0
  simp only [Nat.zero_mul, Nat.add_zero] at c0 c1 c2 c3
  have hbz : b < w.heap.size + 1 := by omega
  clear hy
  go_enter Tryz.func81, Tryz.ntmps81
  go_wp2_with fail
  have HM := Lib.hid (Box.newAt (w.alloc (.cells #[.int .i64 0, .slice none 0 0, .int .i64 0, .slice none 0 0] 83)) #[.int .i64 y, .slice none 0 0, .int .i64 1, .slice none 0 0] 83 (n := w.heap.size + 1) (by simp))
  have HZ1 := Lib.hid (HZ.out.alloc (.cells #[.int .i64 y, .slice none 0 0, .int .i64 1, .slice none 0 0] 83))
  have HB1 := Lib.hid (HB.out.alloc HB.out.size (.cells #[.int .i64 y, .slice none 0 0, .int .i64 1, .slice none 0 0] 83))
  go_loopw [6] (fun i wr => ∃ k : Nat, 0 < k ∧ k ≤ n ∧ i = .int .i64 k ∧ Below w.heap.size w wr ∧ Box wr w.heap.size 83 #[.int .i64 0, .slice none 0 0, .int .i64 0, .slice none 0 0].toList ∧ Box wr (w.heap.size + 1) 83 [.int .i64 (mxL (l.take k)), .slice none 0 0, .int .i64 1, .slice none 0 0]) (fun i _ => n - (intOf i).toNat)
  case atStart => exact ⟨1, by omega, by omega, rfl, HB1.out, HZ1.out, by rw [HST.out]; exact HM.out⟩
  case round =>
    obtain ⟨k, hk0, hk, rfl, hbe, hbz2, hbm⟩ := hrel
    clear HM HZ1 HB1 HZ HB z0 z1 z2 z3 zf zz c0 c1 c2 c3
    have HB := Lib.hid hbe
    have HZ := Lib.hid hbz2
    have HM := Lib.hid hbm
    clear hbz2 hbm
    have hbr : b < wr.heap.size := by have := hbe.size; omega
    obtain ⟨m, hm⟩ : ∃ m, mxL (l.take k) = m := ⟨_, rfl⟩
    rw [hm] at HM
    have hsm : Sm m := by rw [← hm]; exact HSM.out k (by rw [HN.out]; exact hk) hk0
    obtain ⟨m0, m1, m2, m3, mf, mz⟩ := HM.out.w4
    by_cases hlt : k < n
    · have hkl : k < l.length := by rw [HN.out]; exact hlt
      obtain ⟨c0, c1, c2, c3⟩ := HCL.out wr hbe k hkl
      have HS1 := Lib.hid (HSN.out k hkl hk0)
      rw [hm] at HS1
      have hx := HEL.out k hkl
      generalize l[k] = x at *
      have HCX := Lib.hid (fun X : Later wr => HC.out X.w x m hx hsm)
      have hway : (decide (0 < cmpZ x m) = true ∧ max m x = x) ∨ (decide (0 < cmpZ x m) = false ∧ max m x = m) := by
        rcases cmpZ_cases x m with ⟨h, e⟩ | ⟨h, e⟩ | ⟨h, e⟩
        · exact .inr ⟨decide_eq_false (by omega), by omega⟩
        · exact .inr ⟨decide_eq_false (by omega), by omega⟩
        · exact .inl ⟨decide_eq_true (by omega), by omega⟩
      generalize cmpZ x m = q at *
      clear hbe hm hx hsm
      rcases hway with ⟨d0, e⟩ | ⟨d0, e⟩
      · rw [e] at HS1
        clear e
        go_wp2_with fail
        refine wp_region_later (by kernel_rfl) (by kernel_rfl) ?_
        repeat go_big_quiet_step ((go_at_call 54; exact Calls.later (HCX.out _)))
        refine wpQuiet_nil ?_
        rintro w2 ⟨⟨_, hb2⟩, rfl⟩
        obtain ⟨c0', c1', c2', c3'⟩ : w2.cell? ⟨b, off + k * 4, none⟩ = _ ∧ w2.cell? ⟨b, off + k * 4 + 1, none⟩ = _ ∧ w2.cell? ⟨b, off + k * 4 + 2, none⟩ = _ ∧ w2.cell? ⟨b, off + k * 4 + 3, none⟩ = _ := ⟨(hb2.cell (p := ⟨b, _, none⟩) hbr).trans c0, (hb2.cell (p := ⟨b, _, none⟩) hbr).trans c1, (hb2.cell (p := ⟨b, _, none⟩) hbr).trans c2, (hb2.cell (p := ⟨b, _, none⟩) hbr).trans c3⟩
        have hbr2 : b < w2.heap.size := Nat.lt_of_lt_of_le hbr hb2.size
        replace HZ := Lib.hid (HZ.out.later hb2)
        replace HM := Lib.hid (HM.out.later hb2)
        replace HB := Lib.hid (HB.out.trans (hb2.mono HB.out.size))
        clear hb2 m0 m1 m2 m3 mf mz c0 c1 c2 c3 hbr
        obtain ⟨m0, m1, m2, m3, mf, mz⟩ := HM.out.w4
        go_wp2_with fail
        go_roundw
        case rel =>
          refine ⟨k + 1, by omega, by omega, by go_num, ?_, (((HZ.out.other (a := ⟨w.heap.size + 1, 0, none⟩) (.int .i64 x) (by dsimp only; omega)).other (a := ⟨w.heap.size + 1, 1, none⟩) (.slice none 0 0) (by dsimp only; omega)).other (a := ⟨w.heap.size + 1, 2, none⟩) (.int .i64 1) (by dsimp only; omega)).other (a := ⟨w.heap.size + 1, 3, none⟩) (.slice none 0 0) (by dsimp only; omega), by rw [HS1.out]; exact (((HM.out.set 0 (.int .i64 x)).set 1 (.slice none 0 0)).set 2 (.int .i64 1)).set 3 (.slice none 0 0)⟩
          repeat (first | with_reducible exact HB.out | with_reducible exact Below.refl _ _ | refine Below.setCell ?_ (by first | (dsimp only; omega) | (simp; done) | (simp; omega)) _ | refine Below.alloc ?_ (by first | omega | (simp; done) | (simp; omega)) _ | refine Below.drew ?_)
        case measure => simp [intOf]; omega
      · rw [e] at HS1
        clear e
        go_wp2_with fail
        refine wp_region_later (by kernel_rfl) (by kernel_rfl) ?_
        repeat go_big_quiet_step ((go_at_call 54; exact Calls.later (HCX.out _)))
        refine wpQuiet_nil ?_
        rintro w2 ⟨⟨_, hb2⟩, rfl⟩
        replace HZ := Lib.hid (HZ.out.later hb2)
        replace HM := Lib.hid (HM.out.later hb2)
        replace HB := Lib.hid (HB.out.trans (hb2.mono HB.out.size))
        clear hb2 m0 m1 m2 m3 mf mz c0 c1 c2 c3
        go_wp2_with fail
        go_roundw
        case rel => exact ⟨k + 1, by omega, by omega, by go_num, HB.out, HZ.out, by rw [HS1.out]; exact HM.out⟩
        case measure => simp [intOf]; omega
    · obtain rfl : k = n := by omega
      have hmR : m = R := by rw [← hm]; exact HEN.out
      subst hmR
      clear hbe hm
      obtain ⟨z0, z1, z2, z3, zf, zz⟩ := HZ.out.w4
      go_wp2_with fail
      refine bodyPost_ret (v := .agg #[.int .i64 m, .slice none 0 0, .int .i64 1, .slice none 0 0]) (by simp [results, Tryz.results81, go_sem, *]) rfl ?_
      refine Ret.mk rfl ?_
      repeat (first | with_reducible exact HB.out | with_reducible exact Below.refl _ _ | refine Below.setCell ?_ (by first | (dsimp only; omega) | (simp; done) | (simp; omega)) _ | refine Below.alloc ?_ (by first | omega | (simp; done) | (simp; omega)) _ | refine Below.drew ?_)
set_option maxRecDepth 100000 in
set_option maxHeartbeats 1000000 in
theorem greatest52 (w : World) (v : Value) (l : List Int) (hv : Sl encF 4 w w.heap.size v l) (h0 : l ≠ []) (hl : ∀ z ∈ l, Sm z) : Calls Tryz.prog 52 #[v] w (Ret (.agg #[.int .i64 (mxL l), .slice none 0 0, .int .i64 1, .slice none 0 0]) w) := by
  have HC := Lib.hid (fun (w1 : World) (hb : Below w.heap.size w w1) => maxFunc81 w1 v l (hv.later hb) h0 hl)
  obtain ⟨a, c, rfl, _⟩ := hv
  obtain ⟨R, hR⟩ : ∃ R, mxL l = R := ⟨_, rfl⟩
  obtain ⟨n, hn⟩ : ∃ n, l.length = n := ⟨_, rfl⟩
  rw [hR] at HC ⊢
  rw [hn] at HC ⊢
  clear hR hn
  have HB := Lib.hid ((Below.refl w.heap.size w).alloc (Nat.le_refl _) (.cells #[.int .i64 0, .slice none 0 0, .int .i64 0, .slice none 0 0] 83))
  have HZ := Lib.hid (Box.new w #[.int .i64 0, .slice none 0 0, .int .i64 0, .slice none 0 0] 83)
  obtain ⟨z0, z1, z2, z3, zf, zz⟩ := HZ.out.w4
  clear hl h0
  go_enter Tryz.func52, Tryz.ntmps52
  go_wp2_with fail
  refine (HC.out _ HB.out).mono ?_
  rintro e4 w4 ⟨rfl, hb⟩
  replace HB := Lib.hid (HB.out.trans (hb.mono HB.out.size))
  replace HZ := Lib.hid (HZ.out.later hb)
  clear hb z0 z1 z2 z3 zf zz
  obtain ⟨z0, z1, z2, z3, zf, zz⟩ := HZ.out.w4
  go_wp2_with fail
  refine bodyPost_ret (v := .agg #[.int .i64 R, .slice none 0 0, .int .i64 1, .slice none 0 0]) (by simp [results, Tryz.results52, go_sem, *]) rfl ?_
  refine Ret.mk rfl ?_
  repeat (first | exact HB.out | exact Below.refl _ _ | refine Below.setCell ?_ (by first | (dsimp only; omega) | (simp; done) | (simp; omega)) _ | refine Below.alloc ?_ (by first | omega | (simp; done) | (simp; omega)) _ | refine Below.drew ?_)
def mnL : List Int → Int
  | [] => 0
  | x :: r => r.foldl min x
theorem mnL_snoc {l : List Int} (h : l ≠ []) (x : Int) : mnL (l ++ [x]) = min (mnL l) x := by
  cases l with
  | nil => exact absurd rfl h
  | cons y r => show (r ++ [x]).foldl min y = _; rw [List.foldl_append]; rfl
theorem mnL_sm {l : List Int} (h : l ≠ []) (hl : ∀ z ∈ l, Sm z) : Sm (mnL l) := by
  cases l with
  | nil => exact absurd rfl h
  | cons y r =>
    have hy := hl y List.mem_cons_self
    have hr : ∀ z ∈ r, Sm z := fun z hz => hl z (List.mem_cons_of_mem _ hz)
    show Sm (r.foldl min y)
    clear hl h
    induction r generalizing y with
    | nil => exact hy
    | cons z r ih =>
      have hz := hr z List.mem_cons_self
      refine ih (min y z) ⟨?_, ?_⟩ (fun u hu => hr u (List.mem_cons_of_mem _ hu))
      · have := hy.lo; have := hz.lo; omega
      · have := hy.hi; have := hz.hi; omega
set_option maxRecDepth 100000 in
set_option maxHeartbeats 4000000 in
theorem minFunc82 (w : World) (v : Value) (l : List Int) (hv : Sl encF 4 w w.heap.size v l) (h0 : l ≠ []) (hl : ∀ z ∈ l, Sm z) : Calls Tryz.prog 82 #[v, .func (.func 54) #[] #[]] w (Ret (.agg #[.int .i64 (mnL l), .slice none 0 0, .int .i64 1, .slice none 0 0]) w) := by
  have HC := Lib.hid (fun (w1 : World) (x m : Int) (hx : Sm x) (hm : Sm m) => scmp54 w1 x m hx hm)
  have HSN := Lib.hid (fun (k : Nat) (hk : k < l.length) (hk0 : 0 < k) => (show mnL (l.take (k + 1)) = min (mnL (l.take k)) l[k] by
    rw [List.take_succ_eq_append_getElem hk]; exact mnL_snoc (by intro e; have := congrArg List.length e; rw [List.length_take, List.length_nil] at this; omega) _))
  have HSM := Lib.hid (fun (k : Nat) (hk : k ≤ l.length) (hk0 : 0 < k) => mnL_sm (l := l.take k) (by intro e; have := congrArg List.length e; rw [List.length_take, List.length_nil] at this; omega) (fun z hz => hl z (List.mem_of_mem_take hz)))
  have HEL := Lib.hid (fun (k : Nat) (hk : k < l.length) => hl _ (List.getElem_mem hk))
  have HEN := Lib.hid (show mnL (l.take l.length) = mnL l by rw [List.take_length])
  have hn0 : 0 < l.length := List.length_pos_iff.2 h0
  have HST := Lib.hid (show mnL (l.take 1) = l[0] by cases l with
    | nil => exact absurd rfl h0
    | cons y r => rfl)
  obtain ⟨a, c, rfl, hlen, hA⟩ := hv
  have HA := Lib.hid hA
  obtain ⟨n, hn⟩ : ∃ n, l.length = n := ⟨_, rfl⟩
  have HN := Lib.hid hn
  rw [hn] at hlen hn0 HEN ⊢
  obtain ⟨b, off, rfl, hbb, hcells⟩ := HA.out (by rw [hn]; exact hn0)
  have HCL := Lib.hid (fun (w1 : World) (hb : Below w.heap.size w w1) (k : Nat) (hk : k < l.length) => ((hcells k hk).below hb hbb).c4)
  obtain ⟨R, hR⟩ : ∃ R, mnL l = R := ⟨_, rfl⟩
  rw [hR] at HEN ⊢
  clear hA hn hl h0 hcells HA hR
  have HB := Lib.hid ((Below.refl w.heap.size w).alloc (Nat.le_refl _) (.cells #[.int .i64 0, .slice none 0 0, .int .i64 0, .slice none 0 0] 83))
  have HZ := Lib.hid (Box.new w #[.int .i64 0, .slice none 0 0, .int .i64 0, .slice none 0 0] 83)
  obtain ⟨z0, z1, z2, z3, zf, zz⟩ := HZ.out.w4
  obtain ⟨y, hy⟩ : ∃ y, l[0]'(by rw [HN.out]; exact hn0) = y := ⟨_, rfl⟩
  rw [hy] at HST
  obtain ⟨c0, c1, c2, c3⟩ := HCL.out _ HB.out 0 (by rw [HN.out]; exact hn0)
  rw [hy] at c0
  simp only [Nat.zero_mul, Nat.add_zero] at c0 c1 c2 c3
  have hbz : b < w.heap.size + 1 := by omega
  clear hy
  go_enter Tryz.func82, Tryz.ntmps82
  go_wp2_with fail
  have HM := Lib.hid (Box.newAt (w.alloc (.cells #[.int .i64 0, .slice none 0 0, .int .i64 0, .slice none 0 0] 83)) #[.int .i64 y, .slice none 0 0, .int .i64 1, .slice none 0 0] 83 (n := w.heap.size + 1) (by simp))
  have HZ1 := Lib.hid (HZ.out.alloc (.cells #[.int .i64 y, .slice none 0 0, .int .i64 1, .slice none 0 0] 83))
  have HB1 := Lib.hid (HB.out.alloc HB.out.size (.cells #[.int .i64 y, .slice none 0 0, .int .i64 1, .slice none 0 0] 83))
  go_loopw [6] (fun i wr => ∃ k : Nat, 0 < k ∧ k ≤ n ∧ i = .int .i64 k ∧ Below w.heap.size w wr ∧ Box wr w.heap.size 83 #[.int .i64 0, .slice none 0 0, .int .i64 0, .slice none 0 0].toList ∧ Box wr (w.heap.size + 1) 83 [.int .i64 (mnL (l.take k)), .slice none 0 0, .int .i64 1, .slice none 0 0]) (fun i _ => n - (intOf i).toNat)
  case atStart => exact ⟨1, by omega, by omega, rfl, HB1.out, HZ1.out, by rw [HST.out]; exact HM.out⟩
  case round =>
    obtain ⟨k, hk0, hk, rfl, hbe, hbz2, hbm⟩ := hrel
    clear HM HZ1 HB1 HZ HB z0 z1 z2 z3 zf zz c0 c1 c2 c3
    have HB := Lib.hid hbe
    have HZ := Lib.hid hbz2
    have HM := Lib.hid hbm
    clear hbz2 hbm
    have hbr : b < wr.heap.size := by have := hbe.size; omega
    obtain ⟨m, hm⟩ : ∃ m, mnL (l.take k) = m := ⟨_, rfl⟩
    rw [hm] at HM
    have hsm : Sm m := by rw [← hm]; exact HSM.out k (by rw [HN.out]; exact hk) hk0
    obtain ⟨m0, m1, m2, m3, mf, mz⟩ := HM.out.w4
    by_cases hlt : k < n
    · have hkl : k < l.length := by rw [HN.out]; exact hlt
      obtain ⟨c0, c1, c2, c3⟩ := HCL.out wr hbe k hkl
      have HS1 := Lib.hid (HSN.out k hkl hk0)
      rw [hm] at HS1
      have hx := HEL.out k hkl
      generalize l[k] = x at *
      have HCX := Lib.hid (fun X : Later wr => HC.out X.w x m hx hsm)
      have hway : (decide (cmpZ x m < 0) = true ∧ min m x = x) ∨ (decide (cmpZ x m < 0) = false ∧ min m x = m) := by
        rcases cmpZ_cases x m with ⟨h, e⟩ | ⟨h, e⟩ | ⟨h, e⟩
        · exact .inl ⟨decide_eq_true (by omega), by omega⟩
        · exact .inr ⟨decide_eq_false (by omega), by omega⟩
        · exact .inr ⟨decide_eq_false (by omega), by omega⟩
      generalize cmpZ x m = q at *
      clear hbe hm hx hsm
      rcases hway with ⟨d0, e⟩ | ⟨d0, e⟩
      · rw [e] at HS1
        clear e
        go_wp2_with fail
        refine wp_region_later (by kernel_rfl) (by kernel_rfl) ?_
        repeat go_big_quiet_step ((go_at_call 54; exact Calls.later (HCX.out _)))
        refine wpQuiet_nil ?_
        rintro w2 ⟨⟨_, hb2⟩, rfl⟩
        obtain ⟨c0', c1', c2', c3'⟩ : w2.cell? ⟨b, off + k * 4, none⟩ = _ ∧ w2.cell? ⟨b, off + k * 4 + 1, none⟩ = _ ∧ w2.cell? ⟨b, off + k * 4 + 2, none⟩ = _ ∧ w2.cell? ⟨b, off + k * 4 + 3, none⟩ = _ := ⟨(hb2.cell (p := ⟨b, _, none⟩) hbr).trans c0, (hb2.cell (p := ⟨b, _, none⟩) hbr).trans c1, (hb2.cell (p := ⟨b, _, none⟩) hbr).trans c2, (hb2.cell (p := ⟨b, _, none⟩) hbr).trans c3⟩
        have hbr2 : b < w2.heap.size := Nat.lt_of_lt_of_le hbr hb2.size
        replace HZ := Lib.hid (HZ.out.later hb2)
        replace HM := Lib.hid (HM.out.later hb2)
        replace HB := Lib.hid (HB.out.trans (hb2.mono HB.out.size))
        clear hb2 m0 m1 m2 m3 mf mz c0 c1 c2 c3 hbr
        obtain ⟨m0, m1, m2, m3, mf, mz⟩ := HM.out.w4
        go_wp2_with fail
        go_roundw
        case rel =>
          refine ⟨k + 1, by omega, by omega, by go_num, ?_, (((HZ.out.other (a := ⟨w.heap.size + 1, 0, none⟩) (.int .i64 x) (by dsimp only; omega)).other (a := ⟨w.heap.size + 1, 1, none⟩) (.slice none 0 0) (by dsimp only; omega)).other (a := ⟨w.heap.size + 1, 2, none⟩) (.int .i64 1) (by dsimp only; omega)).other (a := ⟨w.heap.size + 1, 3, none⟩) (.slice none 0 0) (by dsimp only; omega), by rw [HS1.out]; exact (((HM.out.set 0 (.int .i64 x)).set 1 (.slice none 0 0)).set 2 (.int .i64 1)).set 3 (.slice none 0 0)⟩
          repeat (first | with_reducible exact HB.out | with_reducible exact Below.refl _ _ | refine Below.setCell ?_ (by first | (dsimp only; omega) | (simp; done) | (simp; omega)) _ | refine Below.alloc ?_ (by first | omega | (simp; done) | (simp; omega)) _ | refine Below.drew ?_)
        case measure => simp [intOf]; omega
      · rw [e] at HS1
        clear e
        go_wp2_with fail
        refine wp_region_later (by kernel_rfl) (by kernel_rfl) ?_
        repeat go_big_quiet_step ((go_at_call 54; exact Calls.later (HCX.out _)))
        refine wpQuiet_nil ?_
        rintro w2 ⟨⟨_, hb2⟩, rfl⟩
        replace HZ := Lib.hid (HZ.out.later hb2)
        replace HM := Lib.hid (HM.out.later hb2)
        replace HB := Lib.hid (HB.out.trans (hb2.mono HB.out.size))
        clear hb2 m0 m1 m2 m3 mf mz c0 c1 c2 c3
        go_wp2_with fail
        go_roundw
        case rel => exact ⟨k + 1, by omega, by omega, by go_num, HB.out, HZ.out, by rw [HS1.out]; exact HM.out⟩
        case measure => simp [intOf]; omega
    · obtain rfl : k = n := by omega
      have hmR : m = R := by rw [← hm]; exact HEN.out
      subst hmR
      clear hbe hm
      obtain ⟨z0, z1, z2, z3, zf, zz⟩ := HZ.out.w4
      go_wp2_with fail
      refine bodyPost_ret (v := .agg #[.int .i64 m, .slice none 0 0, .int .i64 1, .slice none 0 0]) (by simp [results, Tryz.results82, go_sem, *]) rfl ?_
      refine Ret.mk rfl ?_
      repeat (first | with_reducible exact HB.out | with_reducible exact Below.refl _ _ | refine Below.setCell ?_ (by first | (dsimp only; omega) | (simp; done) | (simp; omega)) _ | refine Below.alloc ?_ (by first | omega | (simp; done) | (simp; omega)) _ | refine Below.drew ?_)
set_option maxRecDepth 100000 in
set_option maxHeartbeats 1000000 in
theorem least53 (w : World) (v : Value) (l : List Int) (hv : Sl encF 4 w w.heap.size v l) (h0 : l ≠ []) (hl : ∀ z ∈ l, Sm z) : Calls Tryz.prog 53 #[v] w (Ret (.agg #[.int .i64 (mnL l), .slice none 0 0, .int .i64 1, .slice none 0 0]) w) := by
  have HC := Lib.hid (fun (w1 : World) (hb : Below w.heap.size w w1) => minFunc82 w1 v l (hv.later hb) h0 hl)
  obtain ⟨a, c, rfl, _⟩ := hv
  obtain ⟨R, hR⟩ : ∃ R, mnL l = R := ⟨_, rfl⟩
  obtain ⟨n, hn⟩ : ∃ n, l.length = n := ⟨_, rfl⟩
  rw [hR] at HC ⊢
  rw [hn] at HC ⊢
  clear hR hn
  have HB := Lib.hid ((Below.refl w.heap.size w).alloc (Nat.le_refl _) (.cells #[.int .i64 0, .slice none 0 0, .int .i64 0, .slice none 0 0] 83))
  have HZ := Lib.hid (Box.new w #[.int .i64 0, .slice none 0 0, .int .i64 0, .slice none 0 0] 83)
  obtain ⟨z0, z1, z2, z3, zf, zz⟩ := HZ.out.w4
  clear hl h0
  go_enter Tryz.func53, Tryz.ntmps53
  go_wp2_with fail
  refine (HC.out _ HB.out).mono ?_
  rintro e4 w4 ⟨rfl, hb⟩
  replace HB := Lib.hid (HB.out.trans (hb.mono HB.out.size))
  replace HZ := Lib.hid (HZ.out.later hb)
  clear hb z0 z1 z2 z3 zf zz
  obtain ⟨z0, z1, z2, z3, zf, zz⟩ := HZ.out.w4
  go_wp2_with fail
  refine bodyPost_ret (v := .agg #[.int .i64 R, .slice none 0 0, .int .i64 1, .slice none 0 0]) (by simp [results, Tryz.results53, go_sem, *]) rfl ?_
  refine Ret.mk rfl ?_
  repeat (first | exact HB.out | exact Below.refl _ _ | refine Below.setCell ?_ (by first | (dsimp only; omega) | (simp; done) | (simp; omega)) _ | refine Below.alloc ?_ (by first | omega | (simp; done) | (simp; omega)) _ | refine Below.drew ?_)
end Go.Proofs.YtflchbejjofppaaGreatDoor.Nu
/- A region that draws its order, each head operation told by a relation of its yield and the world. -/
namespace Go
open Go.RowKit
section
def Region.relB (ops : Array Oper) (n : Nat) : Bool :=
  Region.noSelect ops && decide (n < ops.size) && Region.sinkB .any ops n && Region.chainB .any ops n && Region.seqB .any ops (ops.size - n) n (Region.marked ops.size n) &&
  ((List.range n).all fun i => match ops[i]? with | some o => o.after.all fun e => !Region.binds .any e || decide (e.on < i) | none => true) &&
  ((List.range n).all fun i => (List.range n).all fun j => Region.flowPair ops i j) &&
  ((List.range n).all fun i => match ops[i]? with | some o => o.guard.isNone && o.dst.isSome | none => true)
def putsN (vs : Nat → Value) : Nat → Act → List Oper → Act
  | _, a, [] => a
  | k, a, o :: os => putsN vs (k + 1) (a.put o.dst (vs k)) os
theorem putsN_other (vs : Nat → Value) (t : Tmp) : ∀ (os : List Oper) (k : Nat) (a : Act), (∀ o ∈ os, o.dst ≠ some t) → (putsN vs k a os).tmps[t]? = a.tmps[t]?
  | [], _, _, _ => rfl
  | o :: os, k, a, h => by
    rw [putsN, putsN_other vs t os (k + 1) _ (fun o' ho' => h o' (List.mem_cons_of_mem _ ho')), put_get, if_neg (h o (by simp))]
theorem putsN_defers (vs : Nat → Value) : ∀ (os : List Oper) (k : Nat) (a : Act), (putsN vs k a os).defers = a.defers
  | [], _, _ => rfl
  | o :: os, k, a => by rw [putsN, putsN_defers vs os, put_defers]
theorem putsN_at (vs : Nat → Value) (t : Tmp) : ∀ (os : List Oper) (k : Nat) (a : Act) (j : Nat) (o : Oper), os.Pairwise (fun o o' => ∀ t, o.dst = some t → o'.dst ≠ some t) → os[j]? = some o → o.dst = some t →
    (putsN vs k a os).tmps[t]? = a.tmps[t]?.map (fun _ => vs (k + j))
  | [], _, _, j, _, _, h, _ => by simp at h
  | o1 :: os, k, a, 0, o, hp, h, hd => by
    obtain ⟨hp1, hp2⟩ := List.pairwise_cons.1 hp
    have e : o1 = o := by simpa using h
    subst e
    rw [putsN, putsN_other vs t os (k + 1) _ (fun o' ho' => hp1 o' ho' t hd), put_get, if_pos hd]; rfl
  | o1 :: os, k, a, j + 1, o, hp, h, hd => by
    obtain ⟨hp1, hp2⟩ := List.pairwise_cons.1 hp
    have h' : os[j]? = some o := by simpa using h
    rw [putsN, putsN_at vs t os (k + 1) _ j o hp2 h' hd, put_get, if_neg (fun e => hp1 o (List.mem_of_getElem? h') t e hd), show k + 1 + j = k + (j + 1) by omega]
def RelPost (W : World) (a0 : Act) (o : Oper) (Ri : Value → World → Prop) (e : Exit) (a : Act) (w : World) : Prop := e = .normal ∧ a.defers = a0.defers ∧ ∃ t v, o.dst = some t ∧ a.tmps[t]? = some v ∧ Below W.heap.size W w ∧ Ri v w
theorem RelPost.out {W : World} {a0 : Act} {o : Oper} {Ri : Value → World → Prop} : ¬ LetsOut (RelPost W a0 o Ri) := fun ⟨_, _, h⟩ => by cases h.1
variable {P : Program} {l : List Oper} {n : Nat} {W : World} {a0 : Act} {R : Nat → Value → World → Prop} {Q : Exit → Act → World → Prop}
def relAll (F : Nat → Oper → Prop) : Nat → List Oper → Prop
  | _, [] => True
  | k, o :: os => F k o ∧ relAll F (k + 1) os
theorem relAll.get {F : Nat → Oper → Prop} : ∀ (os : List Oper) (k : Nat), relAll F k os → ∀ i o, os[i]? = some o → F (k + i) o
  | [], _, _, i, o, h => by simp at h
  | o1 :: os, k, h, 0, o, ho => by
    have e : o1 = o := by simpa using ho
    subst e; exact h.1
  | o1 :: os, k, h, i + 1, o, ho => by
    have := relAll.get os (k + 1) h.2 i o (by simpa using ho)
    rwa [show k + 1 + i = k + (i + 1) by omega] at this
end
end Go
/- A region that draws its order, its head operations bound by one invariant over what is done, the yields and the world. -/
namespace Go
open Go.RowKit
section
structure JoinFlow (ops : Array Oper) (n : Nat) (a0 : Act) (J : (Nat → Bool) → (Nat → Value) → World → Prop) (vs : Nat → Value) (listed : Array Bool) (a : Act) (w : World) : Prop where
  inv : HeadInv .any ops n listed
  size : a.tmps.size = a0.tmps.size
  defers : a.defers = a0.defers
  slot : ∀ j o t, j < n → ops[j]? = some o → o.dst = some t → a.tmps[t]? = if listed.getD j false = true then a0.tmps[t]?.map (fun _ => vs j) else a0.tmps[t]?
  other : ∀ t, (∀ j o, j < n → ops[j]? = some o → o.dst ≠ some t) → a.tmps[t]? = a0.tmps[t]?
  join : J (fun j => listed.getD j false) vs w
def JoinPost (a0 : Act) (o : Oper) (K : Value → World → Prop) (e : Exit) (a : Act) (w : World) : Prop := e = .normal ∧ a.defers = a0.defers ∧ ∃ t v, o.dst = some t ∧ a.tmps[t]? = some v ∧ K v w
theorem JoinPost.out {a0 : Act} {o : Oper} {K : Value → World → Prop} : ¬ LetsOut (JoinPost a0 o K) := fun ⟨_, _, h⟩ => by cases h.1
def setF {α : Type} (f : Nat → α) (i : Nat) (x : α) : Nat → α := fun j => if j = i then x else f j
theorem setF_same {α : Type} (f : Nat → α) (i : Nat) (x : α) : setF f i x i = x := if_pos rfl
theorem setF_ne {α : Type} (f : Nat → α) {i j : Nat} (x : α) (h : j ≠ i) : setF f i x j = f j := if_neg h
theorem join_op {P : Program} {Q : Exit → Act → World → Prop} {ops : Array Oper} {o : Oper} {i : Nat} (hi : ops[i]? = some o) (hg : o.guard = none) {t : Tmp} (hd : o.dst = some t) {L : Value → World → Prop} {a a' : Act} {w : World} {K : Act → World → Prop} (he : execOp a'.eval o = execOp a.eval o)
    (h : wpList P ops (JoinPost a' o L) [o] a' w) (hK : ∀ v w', L v w' → K (a.put o.dst v) w') : wpOp P ops Q i K a w := by
  have hwant : ∀ x, Region.wanted o x = true := fun x => by simp [Region.wanted, hg]
  unfold wpOp
  simp only [hi]
  rw [if_pos (hwant _)]
  unfold wpList at h
  rw [if_pos (hwant _)] at h
  rcases h with h | h
  rotate_left
  · exact absurd h.2 JoinPost.out
  refine .inl ?_
  have hpost : ∀ v w', JoinPost a' o L .normal (a'.put o.dst v) w' → K (a.put o.dst v) w' := fun v w' hp => by
    obtain ⟨_, _, t', v', hd', hv', hR⟩ := hp
    rw [hd] at hd'
    injection hd' with hd'
    subst hd'
    rw [put_get, if_pos hd] at hv'
    have e : v = v' := by
      cases hx : a'.tmps[t]? with
      | none => rw [hx] at hv'; cases hv'
      | some y => rw [hx] at hv'; injection hv'
    subst e
    exact hK v w' hR
  unfold Oper.wp at h ⊢
  rw [he] at h
  generalize (execOp a.eval o).run P w = r at *
  cases r with
  | ok x w' =>
    cases x with
    | value v => exact hpost v w' h
    | skip => exact hpost undef w' h
    | defer d =>
      exfalso
      obtain ⟨_, hdf, _⟩ := h
      rw [put_defers] at hdf
      have := congrArg List.length hdf
      simp at this
    | enter f args =>
      refine Calls.mono h ?_
      intro e w'' he
      cases e with
      | returned v => exact hpost v w'' he
      | panicked chain => cases he.1
      | outgrown => exact absurd he JoinPost.out
    | row row args => exact Rows.mono h (fun v w'' he => hpost v w'' he)
    | _ => exact h.elim
  | halt x w' =>
    cases x with
    | panic v => cases h.1
    | _ => exact h.elim
variable {P : Program} {l : List Oper} {n : Nat} {a0 : Act} {J : (Nat → Bool) → (Nat → Value) → World → Prop} {Q : Exit → Act → World → Prop}
theorem join_run (hB : Region.relB l.toArray n = true)
    (hq : ∀ i o, i < n → l[i]? = some o → ∀ (D : Nat → Bool) (vs : Nat → Value) (w : World), D i = false → (∀ j, j < i → Region.blindTo l.toArray i j = false → D j = true) → J D vs w → ∃ L : Value → World → Prop, wpList P l.toArray (JoinPost (putsN vs 0 a0 (l.take i)) o L) [o] (putsN vs 0 a0 (l.take i)) w ∧ ∀ v w', L v w' → J (setF D i true) (setF vs i v) w')
    (ht : ∀ (D : Nat → Bool) (vs : Nat → Value) (w : World), (∀ j, j < n → D j = true) → J D vs w → wpList P l.toArray Q (l.drop n) (putsN vs 0 a0 (l.take n)) w) :
    ∀ (f : Nat) (U : List Nat) (vs : Nat → Value) (listed : Array Bool) (a : Act) (w : World), U.length = f → U.Nodup → (∀ i, i ∈ U ↔ i < n ∧ listed.getD i false = false) →
      JoinFlow l.toArray n a0 J vs listed a w → wpAny P .any l.toArray Q (f + (l.toArray.size - n)) listed a w := by
  simp only [Region.relB, Bool.and_eq_true, decide_eq_true_eq, List.all_eq_true, List.mem_range] at hB
  obtain ⟨⟨⟨⟨⟨⟨⟨hsel, hn⟩, hsink⟩, hchain⟩, hseq⟩, hedge⟩, hpair⟩, hguard⟩ := hB
  have hn' : n ≤ l.length := by have h := hn; rw [List.size_toArray] at h; omega
  have hsz : l.toArray.size = l.length := by simp
  have hget : ∀ i : Nat, l.toArray[i]? = l[i]? := fun i => by simp
  have hselect := Region.noSelect_spec hsel
  have hpw : ∀ m, m ≤ n → (l.take m).Pairwise (fun o o' => ∀ t, o.dst = some t → o'.dst ≠ some t) := fun m hm => by
    rw [List.pairwise_iff_getElem]
    intro i j hi hj hij t ht
    rw [List.length_take] at hi hj
    rw [List.getElem_take] at ht ⊢
    exact Region.flowPair_dst (hpair i (by omega) j (by omega)) (by rw [hget]; exact List.getElem?_eq_getElem (by omega)) (by rw [hget]; exact List.getElem?_eq_getElem (by omega)) (fun e => by subst e; omega) ht
  have hputAt : ∀ (vs : Nat → Value) m, m ≤ n → ∀ j o t, j < m → l.toArray[j]? = some o → o.dst = some t → (putsN vs 0 a0 (l.take m)).tmps[t]? = a0.tmps[t]?.map (fun _ => vs j) := fun vs m hm j o t hj ho hd => by
    rw [putsN_at vs t (l.take m) 0 a0 j o (hpw m hm) (by rw [List.getElem?_take, if_pos hj, ← hget]; exact ho) hd, Nat.zero_add]
  have hputO : ∀ (vs : Nat → Value) m, m ≤ n → ∀ t, (∀ j o, j < n → l.toArray[j]? = some o → o.dst ≠ some t) → (putsN vs 0 a0 (l.take m)).tmps[t]? = a0.tmps[t]? := fun vs m hm t h =>
    putsN_other vs t _ 0 a0 fun o ho => by
      obtain ⟨q, hq'⟩ := List.mem_iff_getElem?.1 ho
      rw [List.getElem?_take] at hq'
      split at hq'
      · exact h q o (by omega) (by rw [hget]; exact hq')
      · cases hq'
  intro f
  induction f with
  | zero =>
    intro U vs listed a w hU _ hUm hF
    obtain rfl : U = [] := List.eq_nil_of_length_eq_zero hU
    have hall : ∀ i, i < n → listed.getD i false = true := fun i hi => by
      cases h : listed.getD i false with
      | true => rfl
      | false => have := (hUm i).2 ⟨hi, h⟩; simp at this
    have hl : listed = Region.marked l.toArray.size n := by
      apply Array.ext_getElem?
      intro i
      by_cases hi : i < l.toArray.size
      · have hil : i < listed.size := by rw [hF.inv.size]; exact hi
        have e2 : (Region.marked l.toArray.size n)[i]? = some (decide (i < n)) := by
          rw [List.size_toArray] at hi
          unfold Region.marked
          simp [hi]
        rw [e2, Array.getElem?_eq_getElem hil]
        by_cases hin : i < n
        · have := hall i hin
          simp [hil] at this
          simp [this, hin]
        · have := hF.inv.tail i (by omega) hi
          simp [hil] at this
          simp [this, hin]
      · rw [Array.getElem?_eq_none (by rw [hF.inv.size]; omega), Array.getElem?_eq_none (by rw [List.size_toArray] at hi; unfold Region.marked; simp; omega)]
    have ha : a = putsN vs 0 a0 (l.take n) := by
      have htm : a.tmps = (putsN vs 0 a0 (l.take n)).tmps := by
        apply Array.ext_getElem?
        intro t
        by_cases h : ∃ j o, j < n ∧ l.toArray[j]? = some o ∧ o.dst = some t
        · obtain ⟨j, o, h1, h2, h3⟩ := h
          rw [hF.slot j o t h1 h2 h3, if_pos (hall j h1), hputAt vs n (Nat.le_refl _) j o t h1 h2 h3]
        · have h' : ∀ j o, j < n → l.toArray[j]? = some o → o.dst ≠ some t := fun j o h1 h2 h3 => h ⟨j, o, h1, h2, h3⟩
          rw [hF.other t h', hputO vs n (Nat.le_refl _) t h']
      have hd : a.defers = (putsN vs 0 a0 (l.take n)).defers := by rw [putsN_defers, hF.defers]
      cases a; simp only at htm hd; cases hX : putsN vs 0 a0 (l.take n); rw [hX] at htm hd; simp only at htm hd; rw [htm, hd]
    rw [ha]
    have hdl : (l.drop n).length = l.toArray.size - n := by simp
    have := wpAny_of_seq (md := .any) (Q' := Q) (ops := l.toArray) (l.drop n) n listed (putsN vs 0 a0 (l.take n)) w (fun j => by simp [List.getElem?_drop]) (by rw [hdl, hl]; exact hseq) (ht _ vs w hall hF.join)
    rw [hdl] at this
    rwa [Nat.zero_add]
  | succ f ih =>
    intro U vs listed a w hU hnd hUm hF
    obtain ⟨i0, hi0, hleast⟩ := exists_leastM U (fun e => by rw [e] at hU; simp at hU)
    obtain ⟨hi0n, hi0u⟩ := (hUm i0).1 hi0
    have hin : ∀ i, i < n → i < listed.size := fun i hi => by rw [hF.inv.size]; omega
    have hready : i0 ∈ Region.ready .any l.toArray listed := by
      have hlt : i0 < l.toArray.size := by omega
      refine mem_ready.2 ⟨getD_in (hin _ hi0n) hi0u, l.toArray[i0], Array.getElem?_eq_getElem hlt, fun e he hbd => ?_⟩
      have h1 := hedge i0 hi0n
      rw [Array.getElem?_eq_getElem hlt] at h1
      simp only [Array.all_eq_true_iff_forall_mem] at h1
      have h2 := h1 e he
      simp only [hbd, Bool.not_true, Bool.false_or, decide_eq_true_eq] at h2
      cases h : listed.getD e.on false with
      | true => rfl
      | false =>
        have := hleast e.on ((hUm e.on).2 ⟨by omega, h⟩)
        omega
    rw [show f + 1 + (l.toArray.size - n) = (f + (l.toArray.size - n)) + 1 by omega]
    refine ⟨fun h => (by rw [h] at hready; cases hready), fun i hi => ?_⟩
    obtain ⟨hiu, o, ho, hdep⟩ := mem_ready.1 hi
    have hilt : i < n := Nat.lt_of_not_le fun h => tail_waits hsink hchain hn hF.inv _ i0 rfl hi0n (getD_in (hin _ hi0n) hi0u) i h hi
    have hiU : i ∈ U := (hUm i).2 ⟨hilt, getD_both hiu⟩
    have hinv := hF.inv.set hi hilt
    have hlist : ∀ j, (listed.setIfInBounds i true).getD j false = if j = i then true else listed.getD j false := fun j => by
      by_cases h : j = i
      · subst h; rw [if_pos rfl]; simp [hin j hilt]
      · rw [if_neg h, getD_set_ne false (Ne.symm h)]
    have hUm' : ∀ j, j ∈ U.erase i ↔ j < n ∧ (listed.setIfInBounds i true).getD j false = false := fun j => by
      rw [hnd.mem_erase_iff, hUm j, hlist j]
      by_cases h : j = i
      · simp [h]
      · simp [h]
    have hlen' : (U.erase i).length = f := by rw [List.length_erase_of_mem hiU]; omega
    have hnd' := hnd.erase i
    have hseen : ∀ t ∈ o.looksAt l.toArray, ∀ j oj, j < n → l.toArray[j]? = some oj → oj.dst = some t → i ≠ j ∧ j < i ∧ listed.getD j false = true := by
      intro t ht j oj hj hoj hd
      have hne : i ≠ j := fun e => by
        subst e
        rw [ho] at hoj; cases hoj
        exact Region.flowPair_self (hpair i hilt i hilt) ho hd ht
      have h1 := Region.flowPair_looks (hpair i hilt j hj) ho hoj hne hd ht
      obtain ⟨o', ho', e, he, hbd, hon⟩ := Region.waitsFor_spec h1.2
      rw [ho] at ho'; cases ho'
      have := hdep e he hbd
      rw [hon] at this
      exact ⟨hne, h1.1, this⟩
    have hgd := hguard i hilt
    rw [ho] at hgd
    simp only [Bool.and_eq_true, Option.isNone_iff_eq_none] at hgd
    obtain ⟨hg, hds⟩ := hgd
    obtain ⟨t0, hd0⟩ := Option.isSome_iff_exists.1 hds
    have hex : execOp (putsN vs 0 a0 (l.take i)).eval o = execOp a.eval o := (seen_alike (ops := l.toArray) (fun cs bb => hselect i o cs bb ho) fun t htl => by
      by_cases h : ∃ j o, j < n ∧ l.toArray[j]? = some o ∧ o.dst = some t
      · obtain ⟨j, oj, h1, h2, h3⟩ := h
        obtain ⟨k1, k2, k3⟩ := hseen t htl j oj h1 h2 h3
        rw [hputAt vs i (by omega) j oj t k2 h2 h3, hF.slot j oj t h1 h2 h3, if_pos k3]
      · have h' : ∀ j o, j < n → l.toArray[j]? = some o → o.dst ≠ some t := fun j o h1 h2 h3 => h ⟨j, o, h1, h2, h3⟩
        rw [hputO vs i (by omega) t h', hF.other t h']).1
    have hdepD : ∀ j, j < i → Region.blindTo l.toArray i j = false → listed.getD j false = true := fun j hj hbl => by
      have hjl : j < l.toArray.size := by omega
      unfold Region.blindTo at hbl
      rw [ho, Array.getElem?_eq_getElem hjl] at hbl
      simp only at hbl
      split at hbl
      · rename_i d hdj
        have hmem : d ∈ o.looksAt l.toArray := by simpa using hbl
        exact (hseen d hmem j _ (by omega) (Array.getElem?_eq_getElem hjl) hdj).2.2
      · cases hbl
    obtain ⟨L, hL1, hL2⟩ := hq i o hilt (by rw [← hget]; exact ho) (fun j => listed.getD j false) vs w (getD_both hiu) hdepD hF.join
    refine join_op ho hg hd0 hex hL1 (fun v w' hR0 => ?_)
    have hR := hL2 v w' hR0
    refine ih (U.erase i) (setF vs i v) _ _ _ hlen' hnd' hUm' ⟨hinv, by rw [put_size, hF.size], by rw [put_defers, hF.defers], ?_, ?_, ?_⟩
    · intro j oj t hj hoj hd
      rw [put_get, hlist j]
      by_cases hji : j = i
      · subst hji
        rw [ho] at hoj; cases hoj
        rw [if_pos hd, if_pos rfl, if_pos rfl, setF_same, hF.slot j o t hj ho hd, if_neg (by rw [getD_both hiu]; simp)]
      · have hne : o.dst ≠ some t := fun h => Region.flowPair_dst (hpair i hilt j hj) ho hoj (Ne.symm hji) h hd
        rw [if_neg hne, if_neg hji, setF_ne _ _ hji, hF.slot j oj t hj hoj hd]
    · intro t h
      rw [put_get, if_neg (h i o hilt ho), hF.other t h]
    · have e : (fun j => (listed.setIfInBounds i true).getD j false) = setF (fun j => listed.getD j false) i true := funext fun j => hlist j
      rw [e]
      exact hR
theorem wp_region_join {id : Nat} {W : World} (n : Nat) (J : (Nat → Bool) → (Nat → Value) → World → Prop) (hm : P.follows .mixedOrders = true) (hB : Region.relB l.toArray n = true)
    (h0 : J (fun _ => false) (fun _ => undef) W.drew)
    (hq : relAll (fun i o => ∀ (D : Nat → Bool) (vs : Nat → Value) (w : World), D i = false → (∀ j, j < i → Region.blindTo l.toArray i j = false → D j = true) → J D vs w → ∃ L : Value → World → Prop, wpList P l.toArray (JoinPost (putsN vs 0 a0 (l.take i)) o L) [o] (putsN vs 0 a0 (l.take i)) w ∧ ∀ v w', L v w' → J (setF D i true) (setF vs i v) w') 0 (l.take n))
    (ht : ∀ (D : Nat → Bool) (vs : Nat → Value) (w : World), (∀ j, j < n → D j = true) → J D vs w → wpList P l.toArray Q (l.drop n) (putsN vs 0 a0 (l.take n)) w) :
    (Code.region id l.toArray true).wp P Q a0 W := by
  refine wp_region_any hm ?_
  have hB' := hB
  simp only [Region.relB, Bool.and_eq_true, decide_eq_true_eq] at hB'
  have hn := hB'.1.1.1.1.1.1.2
  have inv0 : HeadInv .any l.toArray n (Array.replicate l.toArray.size false) :=
    ⟨by simp, fun j oj _ hl => (by rw [getD_replicate_false] at hl; cases hl), fun t _ ht => getD_in (by simpa using ht) (getD_replicate_false _ _)⟩
  have e0 : (fun j => (Array.replicate l.toArray.size false).getD j false) = fun _ => false := funext fun j => getD_replicate_false _ _
  have h := join_run (a0 := a0) (J := J) (Q := Q) hB
    (fun i o hi ho => by
      have := relAll.get _ 0 hq i o (by rw [List.getElem?_take, if_pos hi]; exact ho)
      rwa [Nat.zero_add] at this) ht n (List.range n) (fun _ => undef) (Array.replicate l.toArray.size false) a0 W.drew (by simp) List.nodup_range (fun i => by rw [List.mem_range]; exact ⟨fun h => ⟨h, getD_replicate_false _ _⟩, fun h => h.1⟩)
    ⟨inv0, rfl, rfl, fun j o t _ _ _ => by rw [getD_replicate_false]; rfl, fun t _ => rfl, by rw [e0]; exact h0⟩
  rwa [show n + (l.toArray.size - n) = l.toArray.size by omega] at h
end
end Go
