/- Lemmas on the way to the laws (part 15): Bm Bn Bo Bp -/
import Derived.Test.YtahpdkkpnkhnhaaGreatDoorLib14
set_option linter.unusedVariables false
set_option linter.unusedSimpArgs false

/- Walks: tasks; CheckTasks. -/
namespace Go.Proofs.YtahpdkkpnkhnhaaGreatDoor
open Go Go.Proofs Go.RowKit Go.Shelf

/-- Slice v reads as the tasks ts. -/
def TasksR (w : World) (B : Nat) (v : Value) (ts : List Tk) : Prop :=
  ∃ a c, v = .slice a ts.length c ∧ (ts.length ≤ 1000000000 ∧ ts.length ≤ c) ∧ (0 < ts.length → ∃ b off, a = some ⟨b, off, none⟩ ∧ b < B ∧
    ∀ i (h : i < ts.length), ∃ au cu, At w b (off + i * 3) [.slice au ts[i].path.length cu, .string ts[i].grain, .int .i64 ts[i].run] ∧ Sl encI 1 w B (.slice au ts[i].path.length cu) ts[i].path)
theorem TasksR.later {w w' : World} {v : Value} {ts : List Tk} (h : TasksR w w.heap.size v ts) (hb : Below w.heap.size w w') : TasksR w' w'.heap.size v ts := by
  obtain ⟨a, c, h1, h2, h3⟩ := h
  refine ⟨a, c, h1, h2, fun h0 => ?_⟩
  obtain ⟨b, off, h4, h5, h6⟩ := h3 h0
  refine ⟨b, off, h4, Nat.lt_of_lt_of_le h5 hb.size, fun i hi => ?_⟩
  obtain ⟨au, cu, h7, h8⟩ := h6 i hi
  exact ⟨au, cu, h7.below hb h5, h8.later hb⟩
/-- The error of a task. -/
def ckTk (p : Pl) (t : Tk) : Int := if pathE p t.path ≠ 0 then pathE p t.path else if isName t.grain = false then 8 else if t.run < 1 ∨ 100000 < t.run then 3 else 0
def ckTkL (p : Pl) : List Tk → Int
  | [] => 0
  | t :: r => if ckTk p t ≠ 0 then ckTk p t else ckTkL p r
theorem ckTkL_drop (p : Pl) (ts : List Tk) (k : Nat) (h : k < ts.length) : ckTkL p (ts.drop k) = if ckTk p ts[k] ≠ 0 then ckTk p ts[k] else ckTkL p (ts.drop (k + 1)) := by
  rw [List.drop_eq_getElem_cons h]; rfl
def ckTasks (p : Pl) (ts : List Tk) : Int := if ckPlant p ≠ 0 then ckPlant p else if 16 < ts.length then 5 else ckTkL p ts
theorem ckTkL_ok {p : Pl} : ∀ {r : List Tk}, ckTkL p r = 0 → ∀ t ∈ r, ckTk p t = 0
  | [], _ => fun t ht => by cases ht
  | a :: r, h => by
    unfold ckTkL at h
    split at h
    · rename_i h1; exact absurd h h1
    · rename_i h1
      intro t ht
      rcases List.mem_cons.1 ht with rfl | ht
      · exact Decidable.not_not.1 h1
      · exact ckTkL_ok h t ht
theorem ckTk_ok {p : Pl} {t : Tk} (h : ckTk p t = 0) : OkT p t ∧ pathB p t.path = true ∧ isName t.grain = true ∧ 1 ≤ t.run := by
  unfold ckTk at h
  split at h
  · rename_i h1; exact absurd h h1
  · rename_i h1
    split at h
    · cases h
    · rename_i h2
      split at h
      · cases h
      · rename_i h3
        obtain ⟨h4, h5⟩ := pathE_ok (Decidable.not_not.1 h1)
        refine ⟨⟨h4, ((pathB_iff _ _).1 h5).2.2.2.1, by omega⟩, h5, ?_, by omega⟩
        cases hq : isName t.grain with
        | true => rfl
        | false => exact absurd hq h2
theorem ckTasks_ok {p : Pl} {ts : List Tk} (h : ckTasks p ts = 0) : OkP p ∧ ts.length ≤ 16 ∧ ∀ t ∈ ts, ckTk p t = 0 := by
  unfold ckTasks at h
  split at h
  · rename_i h1; exact absurd h h1
  · rename_i h1
    split at h
    · cases h
    · rename_i h2
      exact ⟨ckPlant_ok (Decidable.not_not.1 h1), by omega, ckTkL_ok h⟩
theorem OkT.len {p : Pl} {t : Tk} (h : OkT p t) : t.path.length ≤ p.ms.length := by
  have h1 : t.path ⊆ (List.range p.ms.length).map (fun i : Nat => (i : Int)) := fun x hx => by
    obtain ⟨k, rfl, hk⟩ := inN_nat (h.ins x hx)
    exact List.mem_map.2 ⟨k, List.mem_range.2 hk, rfl⟩
  have := List.Nodup.length_le_of_subset h.nd h1
  simpa using this
def SzT (ts : List Tk) : Prop := ∀ t ∈ ts, t.grain.size ≤ 9223372036854775807
set_option maxRecDepth 100000 in
set_option maxHeartbeats 1000000 in
theorem checkTasks53 (w : World) (v1 v2 u : Value) (p : Pl) (ts : List Tk) (hw : WdR w) (hv : PlR w w.heap.size v1 v2 p) (hu : TasksR w w.heap.size u ts) (hs : SzT ts) : Calls Tryz.prog 53 #[.agg #[v1, v2], u] w (Ret (.int .i64 (ckTasks p ts)) w) := by
  have HP := Lib.hid (fun (w1 : World) (hb : Below w.heap.size w w1) => ckPlant32 w1 _ _ p (hw.later hb) (hv.later hb))
  have HPT := Lib.hid (fun (w1 : World) (hb : Below w.heap.size w w1) => fun x l (hx : Sl encI 1 w w.heap.size x l) => checkPath104 w1 _ _ x p l (hw.later hb) (hv.later hb) (hx.later hb))
  obtain ⟨a1, n1, a2, n2, rfl, rfl⟩ := hv.agg
  obtain ⟨a, c, rfl, hlen, hA⟩ := hu
  have HA := Lib.hid hA
  have HSZ := Lib.hid hs
  clear hA hs hw hv
  obtain ⟨hl, hlc⟩ := hlen
  obtain ⟨R, hR⟩ : ∃ R, ckTasks p ts = R := ⟨_, rfl⟩
  rw [hR]
  unfold ckTasks at hR
  have HR := Lib.hid hR
  clear hR
  have HB := Lib.hid ((Below.refl w.heap.size w).alloc (Nat.le_refl _) (.cells #[.slice a1 p.ms.length n1, .slice a2 p.arcs.length n2] 25))
  have HX := Lib.hid (Box.new w #[.slice a1 p.ms.length n1, .slice a2 p.arcs.length n2] 25)
  obtain ⟨n, hn⟩ : ∃ n, p.ms.length = n := ⟨_, rfl⟩
  obtain ⟨m, hm⟩ : ∃ m, p.arcs.length = m := ⟨_, rfl⟩
  obtain ⟨ln, hln⟩ : ∃ m, ts.length = m := ⟨_, rfl⟩
  rw [hln] at hl hlc HR ⊢
  rw [hn] at HB HX HP HPT ⊢
  rw [hm] at HB HX HP HPT ⊢
  have HLN := Lib.hid hln
  clear hn hm hln
  obtain ⟨cp, hcp⟩ : ∃ c, ckPlant p = c := ⟨_, rfl⟩
  rw [hcp] at HP HR
  clear hcp
  go_enter Tryz.func53, Tryz.ntmps53
  go_wp2_with fail
  refine (HP.out _ HB.out).mono ?_
  rintro e w2 ⟨rfl, hb2⟩
  have HB2 := Lib.hid (HB.out.trans (hb2.mono HB.out.size))
  have HX2 := Lib.hid (HX.out.later hb2)
  obtain ⟨x0, x1, xf, xz⟩ := HX2.out.v2
  clear hb2
  by_cases hc0 : cp = 0
  rotate_left
  · have k0 : (cp != 0) = true := by simpa using hc0
    rw [if_pos hc0] at HR
    clear hc0
    go_wp2_with fail
    go_ret
    exact ⟨by rw [← HR.out]; rfl, HB2.out⟩
  subst hc0
  rw [if_neg (by simp)] at HR
  by_cases h16 : 16 < ln
  · have k1 : decide ((16 : Int) < (ln : Int)) = true := decide_eq_true (by omega)
    rw [if_pos h16] at HR
    clear h16
    go_wp2_with fail
    go_ret
    exact ⟨by rw [← HR.out]; rfl, HB2.out⟩
  have k1 : decide ((16 : Int) < (ln : Int)) = false := decide_eq_false (by omega)
  rw [if_neg h16] at HR
  have HR0 := Lib.hid (show ckTkL p (ts.drop 0) = R from HR.out)
  go_wp2_with fail
  go_loopw [19] (fun j wr => ∃ k : Nat, k ≤ ln ∧ j = .int .i64 k ∧ Below w.heap.size w wr ∧ Box wr w.heap.size 25 [.slice a1 n n1, .slice a2 m n2] ∧ ckTkL p (ts.drop k) = R) (fun j _ => ln - (intOf j).toNat)
  case atStart => exact ⟨0, by omega, rfl, HB2.out, HX2.out, HR0.out⟩
  case round =>
    clear HB HX HB2 HX2 x0 x1 xf xz HR HR0
    obtain ⟨k, hk, rfl, hbe, hx, hrel⟩ := hrel
    have HL := Lib.hid hrel
    have HBE := Lib.hid hbe
    have HXE := Lib.hid hx
    clear hrel hbe hx
    by_cases hlt : k < ln
    rotate_left
    · obtain rfl : ln = k := by omega
      have HV := Lib.hid (show R = 0 by rw [← HL.out, ← HLN.out, List.drop_length]; rfl)
      go_wp2_with fail
      go_ret
      exact ⟨by rw [HV.out]; rfl, HBE.out⟩
    have hkl : k < ts.length := by rw [HLN.out]; exact hlt
    obtain ⟨b, off, rfl, hbb, hcells⟩ := HA.out (by rw [HLN.out]; omega)
    obtain ⟨au, cu, hat, hsl⟩ := hcells k hkl
    have HCK := Lib.hid hat
    have HSL := Lib.hid hsl
    have hd := Lib.hid (ckTkL_drop p ts k hkl)
    have HSZK := Lib.hid (HSZ.out ts[k] (List.getElem_mem hkl))
    clear hcells hat hsl
    generalize ts[k] = t at *
    clear hkl
    obtain ⟨path, grain, run⟩ := t
    dsimp only at HCK HSL HSZK
    obtain ⟨c0, c1, c2⟩ := (HCK.out.below HBE.out hbb).c3
    have hbz : b < wr.heap.size := Nat.lt_of_lt_of_le hbb HBE.out.size
    have HC := Lib.hid (fun (w1 : World) (hb : Below w.heap.size w w1) => HPT.out w1 hb _ path HSL.out)
    have HN := Lib.hid (fun (w1 : World) => isName91 grain w1 HSZK.out)
    have HTK := Lib.hid (show ckTk p ⟨path, grain, run⟩ = if pathE p path ≠ 0 then pathE p path else if isName grain = false then 8 else if run < 1 ∨ 100000 < run then 3 else 0 from rfl)
    obtain ⟨E, hE⟩ : ∃ E, ckTk p ⟨path, grain, run⟩ = E := ⟨_, rfl⟩
    obtain ⟨pe, hpe⟩ : ∃ E, pathE p path = E := ⟨_, rfl⟩
    obtain ⟨qn, hqn⟩ : ∃ E, isName grain = E := ⟨_, rfl⟩
    rw [hE] at hd HTK
    rw [hpe] at HC HTK
    rw [hqn] at HN HTK
    clear hE hpe hqn HSL HSZK
    generalize path.length = pl at *
    obtain ⟨x0, x1, xf, xz⟩ := HXE.out.v2
    have HB3 := Lib.hid (HBE.out.alloc (by have := HBE.out.size; omega) (.cells #[.slice au pl cu, .string grain, .int .i64 run] 114))
    have HX3 := Lib.hid (HXE.out.alloc (.cells #[.slice au pl cu, .string grain, .int .i64 run] 114))
    have HS3 := Lib.hid (Box.new wr #[.slice au pl cu, .string grain, .int .i64 run] 114)
    have HOKK := Lib.hid (fun (h : E = 0) => show ckTkL p (ts.drop (k + 1)) = R by rw [← HL.out, hd.out, if_neg (by rw [h]; simp)])
    have HNO := Lib.hid (fun (h : E ≠ 0) => show R = E by rw [← HL.out, hd.out, if_pos h])
    go_wp2_with fail
    refine (HC.out _ HB3.out).mono ?_
    rintro e w3 ⟨rfl, hb3⟩
    have HB4 := Lib.hid (HB3.out.trans (hb3.mono HB3.out.size))
    have HX4 := Lib.hid (HX3.out.later hb3)
    have HS4 := Lib.hid (HS3.out.later hb3)
    have y1 := HS4.out.cell 1
    have y2 := HS4.out.cell 2
    have yz := HS4.out.lt
    simp only [List.getElem?_cons_zero, List.getElem?_cons_succ] at y1 y2
    clear hb3 c0 c1 c2 x0 x1 xf xz
    by_cases hp0 : pe = 0
    rotate_left
    · have k0 : (pe != 0) = true := by simpa using hp0
      rw [if_pos hp0] at HTK
      have HV := Lib.hid (show R = pe by rw [HNO.out (by rw [HTK.out]; exact hp0), HTK.out])
      clear hp0
      go_wp2_with fail
      go_ret
      exact ⟨by rw [HV.out]; rfl, HB4.out⟩
    subst hp0
    rw [if_neg (by simp)] at HTK
    go_wp2_with fail
    refine (HN.out _).mono ?_
    rintro e w5 ⟨rfl, hb5⟩
    have HB5 := Lib.hid (HB4.out.trans (hb5.mono HB4.out.size))
    have HX5 := Lib.hid (HX4.out.later hb5)
    have HS5 := Lib.hid (HS4.out.later hb5)
    clear y1 y2 yz
    have y2 := HS5.out.cell 2
    have yz := HS5.out.lt
    simp only [List.getElem?_cons_zero, List.getElem?_cons_succ] at y2
    clear hb5
    cases qn with
    | false =>
      have HV := Lib.hid (show R = 8 by rw [HNO.out (by rw [HTK.out, if_pos rfl]; decide), HTK.out]; rfl)
      go_wp2_with fail
      go_ret
      exact ⟨by rw [HV.out]; rfl, HB5.out⟩
    | true =>
    rw [if_neg (by simp)] at HTK
    by_cases hr1 : run < 1
    · have k2 : decide (run < 1) = true := decide_eq_true hr1
      rw [if_pos (.inl hr1)] at HTK
      have HV := Lib.hid (show R = 3 by rw [HNO.out (by rw [HTK.out]; decide), HTK.out])
      clear hr1
      go_wp2_with fail
      go_ret
      exact ⟨by rw [HV.out]; rfl, HB5.out⟩
    have k2 : decide (run < 1) = false := decide_eq_false hr1
    by_cases hr2 : 100000 < run
    · have k3 : decide (100000 < run) = true := decide_eq_true hr2
      rw [if_pos (.inr hr2)] at HTK
      have HV := Lib.hid (show R = 3 by rw [HNO.out (by rw [HTK.out]; decide), HTK.out])
      clear hr1 hr2
      go_wp2_with fail
      go_ret
      exact ⟨by rw [HV.out]; rfl, HB5.out⟩
    have k3 : decide (100000 < run) = false := decide_eq_false hr2
    rw [if_neg (by omega)] at HTK
    have HV := Lib.hid (HOKK.out HTK.out)
    clear hr1 hr2
    go_wp2_with fail
    go_roundw
    case rel => exact ⟨k + 1, by omega, by go_num, HB5.out, HX5.out, HV.out⟩
    case measure => simp [intOf]; omega
end Go.Proofs.YtahpdkkpnkhnhaaGreatDoor

/- Plain: the least start that meets no other task. -/
namespace Go.Proofs.YtahpdkkpnkhnhaaGreatDoor
open Go Go.Proofs Go.RowKit Go.Shelf

/-- s is the least number from 0 on that lies in none of the spans. -/
structure Least (xs : List Ar) (s : Int) : Prop where
  nn : 0 ≤ s
  free : ∀ x ∈ xs, ¬ (x.fr ≤ s ∧ s ≤ x.to)
  low : ∀ t : Int, 0 ≤ t → t < s → ∃ x ∈ xs, x.fr ≤ t ∧ t ≤ x.to
theorem Least.perm {a b : List Ar} {s : Int} (h : Least a s) (hp : a.Perm b) : Least b s :=
  ⟨h.nn, fun x hx => h.free x (hp.mem_iff.2 hx), fun t h0 h1 => let ⟨x, hx, h2⟩ := h.low t h0 h1; ⟨x, hp.mem_iff.1 hx, h2⟩⟩
theorem Least.unique {a : List Ar} {s t : Int} (h : Least a s) (h' : Least a t) : s = t := by
  rcases Int.lt_trichotomy s t with h1 | h1 | h1
  · obtain ⟨x, hx, h2⟩ := h'.low s h.nn h1; exact absurd h2 (h.free x hx)
  · exact h1
  · obtain ⟨x, hx, h2⟩ := h.low t h'.nn h1; exact absurd h2 (h'.free x hx)
theorem Least.nil : Least [] 0 := ⟨Int.le_refl _, fun x hx => absurd hx (by simp), fun t h0 h1 => absurd h1 (by omega)⟩
def pushS (s : Int) (x : Ar) : Int := if x.fr ≤ s then (if s < x.to + 1 then x.to + 1 else s) else s
theorem Least.step {P : List Ar} {x : Ar} {s : Int} (h : Least P s) (hx : ∀ y ∈ P, y.fr ≤ x.fr) : Least (P ++ [x]) (pushS s x) := by
  unfold pushS
  have h0 := h.nn
  by_cases h1 : x.fr ≤ s
  · rw [if_pos h1]
    by_cases h2 : s < x.to + 1
    · rw [if_pos h2]
      refine ⟨by omega, fun y hy => ?_, fun t ht0 ht1 => ?_⟩
      · rcases List.mem_append.1 hy with hy | hy
        · have := h.free y hy; have := hx y hy; omega
        · simp only [List.mem_singleton] at hy; subst hy; omega
      · by_cases h3 : t < s
        · obtain ⟨y, hy, h4⟩ := h.low t ht0 h3
          exact ⟨y, by simp [hy], h4⟩
        · exact ⟨x, by simp, by omega, by omega⟩
    · rw [if_neg h2]
      refine ⟨h0, fun y hy => ?_, fun t ht0 ht1 => ?_⟩
      · rcases List.mem_append.1 hy with hy | hy
        · exact h.free y hy
        · simp only [List.mem_singleton] at hy; subst hy; omega
      · obtain ⟨y, hy, h4⟩ := h.low t ht0 ht1
        exact ⟨y, by simp [hy], h4⟩
  · rw [if_neg h1]
    refine ⟨h0, fun y hy => ?_, fun t ht0 ht1 => ?_⟩
    · rcases List.mem_append.1 hy with hy | hy
      · exact h.free y hy
      · simp only [List.mem_singleton] at hy; subst hy; omega
    · obtain ⟨y, hy, h4⟩ := h.low t ht0 ht1
      exact ⟨y, by simp [hy], h4⟩
theorem least_take {T : List Ar} (hs : SortedF T) {k : Nat} (hk : k < T.length) {s : Int} (h : Least (T.take k) s) : Least (T.take (k + 1)) (pushS s T[k]) := by
  rw [take_snoc T k hk]
  refine h.step fun y hy => ?_
  obtain ⟨i, hi, e⟩ := List.mem_take_iff_getElem.1 hy
  have := List.pairwise_iff_getElem.1 hs i k (by omega) hk (by omega)
  rw [e] at this
  exact this
def tk0 : Tk := ⟨[], ⟨#[]⟩, 0⟩
theorem tkGet {ts : List Tk} {k : Nat} (h : k < ts.length) : ts.getD k tk0 = ts[k] := by rw [List.getD_eq_getElem?_getD, List.getElem?_eq_getElem h]; rfl
/-- The spans with which task i, started at s, bars task k. -/
def barT (p : Pl) (ts : List Tk) (k i : Nat) (s : Int) : List Ar := barO (useF p (ts.getD k tk0).run 0 (ts.getD k tk0).path) (useF p (ts.getD i tk0).run 0 (ts.getD i tk0).path) s (ts.getD i tk0).path
/-- The spans that bar task k, the first n tasks having started. -/
def barsT (p : Pl) (ts : List Tk) (outs : List Int) (k n : Nat) : List Ar := (List.range n).flatMap fun i => barT p ts k i (outs.getD i 0)
theorem barsT_succ (p : Pl) (ts : List Tk) (outs : List Int) (k n : Nat) : barsT p ts outs k (n + 1) = barsT p ts outs k n ++ barT p ts k n (outs.getD n 0) := by
  unfold barsT; rw [List.range_succ, List.flatMap_append]; simp
theorem barsT_congr (p : Pl) (ts : List Tk) (a b : List Int) (k n : Nat) (h : ∀ i, i < n → a.getD i 0 = b.getD i 0) : barsT p ts a k n = barsT p ts b k n := by
  unfold barsT List.flatMap
  congr 1
  exact List.map_congr_left fun i hi => by rw [h i (List.mem_range.1 hi)]
def SchedR (p : Pl) (ts : List Tk) (outs : List Int) : Prop := ∀ k, k < outs.length → Least (barsT p ts outs k k) (outs.getD k 0)
theorem SchedR.snoc {p : Pl} {ts : List Tk} {outs : List Int} {s : Int} (h : SchedR p ts outs) (hs : Least (barsT p ts outs outs.length outs.length) s) : SchedR p ts (outs ++ [s]) := by
  have hg : ∀ i, i < outs.length → (outs ++ [s]).getD i 0 = outs.getD i 0 := fun i hi => by
    rw [List.getD_eq_getElem?_getD, List.getD_eq_getElem?_getD, List.getElem?_append_left hi]
  intro k hk
  simp only [List.length_append, List.length_singleton] at hk
  rcases Nat.lt_succ_iff_lt_or_eq.1 hk with h1 | h1
  · rw [barsT_congr p ts (outs ++ [s]) outs k k (fun i hi => hg i (by omega)), hg k h1]
    exact h k h1
  · subst h1
    rw [barsT_congr p ts (outs ++ [s]) outs _ _ hg, List.getD_eq_getElem?_getD, List.getElem?_append_right (Nat.le_refl _)]
    simpa using hs
theorem SchedR.unique {p : Pl} {ts : List Tk} {a b : List Int} (ha : SchedR p ts a) (hb : SchedR p ts b) (hl : a.length = b.length) : a = b := by
  have key : ∀ k, k < a.length → a.getD k 0 = b.getD k 0 := by
    intro k
    induction k using Nat.strongRecOn with
    | _ k ih =>
      intro hk
      have h1 := ha k hk
      rw [barsT_congr p ts a b k k (fun i hi => ih i hi (by omega))] at h1
      exact h1.unique (hb k (by omega))
  apply List.ext_getElem hl
  intro i h1 h2
  have := key i h1
  rwa [List.getD_eq_getElem?_getD, List.getD_eq_getElem?_getD, List.getElem?_eq_getElem h1, List.getElem?_eq_getElem h2] at this
theorem barO_bd {p : Pl} {t o : Tk} {s M : Int} (hp : OkP p) (ht : OkT p t) (ho : OkT p o) (hs : 0 ≤ s ∧ s ≤ M) : ∀ x ∈ barO (useF p t.run 0 t.path) (useF p o.run 0 o.path) s o.path, -7000000 ≤ x.fr ∧ x.fr ≤ M + 7000000 ∧ -7000000 ≤ x.to ∧ x.to ≤ M + 6700000 := by
  intro x hx
  obtain ⟨m, _, hm⟩ := List.mem_filterMap.1 hx
  unfold barK at hm
  have l1 := ht.len; have l2 := ho.len; have l3 := hp.le
  split at hm
  · rename_i a b h1 h2
    obtain ⟨a1, a2⟩ := a
    obtain ⟨b1, b2⟩ := b
    have e1 := useF_bd hp.times ht.run ht.ins h1
    have e2 := useF_bd hp.times ho.run ho.ins h2
    cases hm
    dsimp only
    omega
  · cases hm
theorem barsT_bd {p : Pl} {ts : List Tk} {outs : List Int} {k n : Nat} (hp : OkP p) (ht : ∀ t ∈ ts, OkT p t) (hk : k < ts.length) (hn : n ≤ ts.length) (ho : ∀ i, i < n → 0 ≤ outs.getD i 0 ∧ outs.getD i 0 ≤ 10000000 * (i + 1)) : ∀ x ∈ barsT p ts outs k n, -7000000 ≤ x.fr ∧ x.fr ≤ 10000000 * n + 7000000 ∧ -7000000 ≤ x.to ∧ x.to ≤ 10000000 * n + 6700000 := by
  intro x hx
  unfold barsT at hx
  obtain ⟨i, hi, hx⟩ := List.mem_flatMap.1 hx
  have hi' := List.mem_range.1 hi
  unfold barT at hx
  rw [tkGet hk, tkGet (show i < ts.length by omega)] at hx
  have h1 := ho i hi'
  have := barO_bd hp (ht _ (List.getElem_mem hk)) (ht _ (List.getElem_mem (show i < ts.length by omega))) (M := 10000000 * n) ⟨h1.1, by omega⟩ x hx
  exact this
theorem barO_len (F1 F2 : Int → Option (Int × Int)) (s : Int) (l : List Int) : (barO F1 F2 s l).length ≤ l.length := List.length_filterMap_le _ _
theorem barsT_len {p : Pl} {ts : List Tk} (hp : OkP p) (ht : ∀ t ∈ ts, OkT p t) (outs : List Int) (k : Nat) : ∀ n, n ≤ ts.length → (barsT p ts outs k n).length ≤ 64 * n
  | 0, _ => by simp [barsT]
  | n + 1, hn => by
    rw [barsT_succ, List.length_append]
    have h1 := barsT_len hp ht outs k n (by omega)
    have h2 : (barT p ts k n (outs.getD n 0)).length ≤ 64 := by
      unfold barT
      rw [tkGet (show n < ts.length by omega)]
      have := barO_len (useF p (ts.getD k tk0).run 0 (ts.getD k tk0).path) (useF p ts[n].run 0 ts[n].path) (outs.getD n 0) ts[n].path
      have := (ht _ (List.getElem_mem (show n < ts.length by omega))).len
      have := hp.le
      omega
    omega
end Go.Proofs.YtahpdkkpnkhnhaaGreatDoor

/- Walks: schedule. -/
namespace Go.Proofs.YtahpdkkpnkhnhaaGreatDoor
open Go Go.Proofs Go.RowKit Go.Shelf

theorem below_dr (w : World) : Below w.heap.size w { w with drawn := w.drawn + 1 } := ⟨rfl, rfl, rfl, Nat.le_refl _, fun _ _ => rfl⟩
def SchPost (w : World) (p : Pl) (ts : List Tk) (e : Ending) (w' : World) : Prop := ∃ v outs, e = .returned v ∧ Own encI 1 3 w' w.heap.size v outs ∧ outs.length = ts.length ∧ SchedR p ts outs ∧ Below w.heap.size w w'
/-- What bars task k of those that came. -/
def BarD (W : World) (p : Pl) (ts : List Tk) (k i : Nat) (s : Int) (v : Value) (W' : World) : Prop := ∃ L, Own Ar.enc 2 123 W' W.heap.size v L ∧ L.Perm (barT p ts k i s) ∧ Below W.heap.size W W'

set_option maxRecDepth 100000 in
set_option maxHeartbeats 4000000 in
theorem schedule113 (w : World) (v1 v2 u : Value) (p : Pl) (ts : List Tk) (hv : PlR w w.heap.size v1 v2 p) (hu : TasksR w w.heap.size u ts) (hp : OkP p) (ht : ∀ t ∈ ts, OkT p t) (h16 : ts.length ≤ 16) : Calls Tryz.prog 113 #[.agg #[v1, v2], u] w (SchPost w p ts) := by
  have HBR := Lib.hid (fun (w1 : World) (hb : Below w.heap.size w w1) t o s u1 u2 (h1 : Sl encI 1 w w.heap.size u1 t.path) (h2 : Sl encI 1 w w.heap.size u2 o.path) (h3 : OkT p t) (h4 : OkT p o) hs => barred114 w1 v1 v2 u1 u2 p t o s (hv.later hb) (h1.later hb) (h2.later hb) hp h3 h4 hs (by have := h3.len; have := hp.le; omega) (by have := h4.len; have := hp.le; omega))
  obtain ⟨a1, n1, a2, n2, rfl, rfl⟩ := hv.agg
  obtain ⟨a, c, rfl, hlen, hA⟩ := hu
  have HA := Lib.hid hA
  have HT := Lib.hid ht
  have HP := Lib.hid hp
  clear hA ht hp hv
  obtain ⟨hl, hlc⟩ := hlen
  have HB := Lib.hid ((Below.refl w.heap.size w).alloc (Nat.le_refl _) (.cells #[.slice a1 p.ms.length n1, .slice a2 p.arcs.length n2] 25))
  have HX := Lib.hid (Box.new w #[.slice a1 p.ms.length n1, .slice a2 p.arcs.length n2] 25)
  obtain ⟨n, hn⟩ : ∃ n, p.ms.length = n := ⟨_, rfl⟩
  obtain ⟨m, hm⟩ : ∃ m, p.arcs.length = m := ⟨_, rfl⟩
  obtain ⟨ln, hln⟩ : ∃ m, ts.length = m := ⟨_, rfl⟩
  rw [hln] at hl hlc h16 ⊢
  rw [hn, hm] at HB HX HBR ⊢
  have HLN := Lib.hid hln
  clear hn hm hln
  obtain ⟨Q, hQ⟩ : ∃ Q, SchPost w p ts = Q := ⟨_, rfl⟩
  rw [hQ]
  have HQ := Lib.hid hQ
  clear hQ
  have HTA : Hid (Tryz.prog.underlying 23 = some (.slice 123)) := Lib.hid Tryz.underlying23
  have HIA := Lib.hid infoAr
  have HTI : Hid (Tryz.prog.underlying 26 = some (.slice 3)) := Lib.hid Tryz.underlying26
  have HII := Lib.hid infoI
  go_enter Tryz.func113, Tryz.ntmps113
  go_wp2_with fail
  go_loopw [16, 5] (fun i v wr => ∃ k : Nat, k ≤ ln ∧ i = .int .i64 k ∧ ∃ outs : List Int, outs.length = k ∧ SchedR p ts outs ∧ (∀ i, i < k → 0 ≤ outs.getD i 0 ∧ outs.getD i 0 ≤ 10000000 * (i + 1)) ∧ Own encI 1 3 wr (w.heap.size + 1) v outs ∧ Box wr w.heap.size 25 [.slice a1 n n1, .slice a2 m n2] ∧ Below w.heap.size w wr) (fun i _ _ => ln - (intOf i).toNat)
  case atStart => exact ⟨0, by omega, rfl, [], rfl, fun k hk => absurd hk (by simp), fun i hi => absurd hi (by omega), Own.nil _ _ _ _ _, HX.out, HB.out⟩
  case round =>
    clear HB HX
    obtain ⟨k, hk, rfl, outs, hol, hsch, hbd, hown, hx, hbe⟩ := hrel
    have HOL := Lib.hid hol
    have HSCH := Lib.hid hsch
    have HBD := Lib.hid hbd
    have HOE := Lib.hid hown
    have HXE := Lib.hid hx
    have HBE := Lib.hid hbe
    obtain ⟨av, cv, hvv⟩ := hown.shape
    rw [hol] at hvv
    subst hvv
    clear hol hsch hbd hown hx hbe
    obtain ⟨U, hU⟩ : ∃ U : World, U = wr := ⟨_, rfl⟩
    subst hU
    by_cases hlt : k < ln
    rotate_left
    · obtain rfl : ln = k := by omega
      go_wp2_with fail
      rw [← HQ.out]
      exact ⟨_, outs, rfl, HOE.out.lower (by omega), by rw [HOL.out, HLN.out], HSCH.out, HBE.out⟩
    have hkl : k < ts.length := by rw [HLN.out]; exact hlt
    have hkc : (k : Int) ≤ c := by omega
    obtain ⟨b, off, rfl, hbb, hcells⟩ := HA.out (by rw [HLN.out]; omega)
    obtain ⟨au, cu, hat, hsl⟩ := hcells k hkl
    have HCT := Lib.hid hcells
    have HSL := Lib.hid hsl
    have HTK := Lib.hid (HT.out _ (List.getElem_mem hkl))
    have HGK := Lib.hid (tkGet hkl)
    have HBB := Lib.hid (barsT_bd (outs := outs) HP.out HT.out hkl (show k ≤ ts.length by omega) HBD.out)
    have HBL := Lib.hid (fun i (hi : i ≤ k) => barsT_len HP.out HT.out outs k i (show i ≤ ts.length by omega))
    obtain ⟨c0, c1, c2⟩ := (hat.below HBE.out hbb).c3
    have hbz : b < U.heap.size := Nat.lt_of_lt_of_le hbb HBE.out.size
    clear hcells hat hsl
    generalize ts[k] = tk at *
    clear hkl
    obtain ⟨pathk, gk, rk⟩ := tk
    dsimp only at c0 c1 c2 HSL HTK
    obtain ⟨pk, hpk⟩ : ∃ m, pathk.length = m := ⟨_, rfl⟩
    rw [hpk] at c0 HSL
    clear hpk
    have HB7 := Lib.hid (HBE.out.alloc (by have := HBE.out.size; omega) (.cells #[.slice au pk cu, .string gk, .int .i64 rk] 114))
    have HX7 := Lib.hid (HXE.out.alloc (.cells #[.slice au pk cu, .string gk, .int .i64 rk] 114))
    have H7 := Lib.hid (Box.new U #[.slice au pk cu, .string gk, .int .i64 rk] 114)
    have HO7 := Lib.hid (HOE.out.alloc (.cells #[.slice au pk cu, .string gk, .int .i64 rk] 114))
    go_wp2_with fail
    obtain ⟨W7, hW7⟩ : ∃ W, U.alloc (.cells #[.slice au pk cu, .string gk, .int .i64 rk] 114) = W := ⟨_, rfl⟩
    rw [hW7] at HB7 HX7 H7 HO7 ⊢
    have HU7 := Lib.hid (show U.heap.size < W7.heap.size by rw [← hW7]; simp)
    clear hW7 c0 c1 c2
    go_loopw [25, 8] (fun i v wr => ∃ j : Nat, j ≤ k ∧ i = .int .i64 j ∧ ∃ L, L.Perm (barsT p ts outs k j) ∧ Own Ar.enc 2 123 wr W7.heap.size v L ∧ Below W7.heap.size W7 wr) (fun i _ _ => k - (intOf i).toNat)
    case atStart => exact ⟨0, by omega, rfl, [], by simp [barsT], Own.nil _ _ _ _ _, Below.refl _ _⟩
    case round =>
      obtain ⟨j, hj, rfl, L, hperm, hown, hbe⟩ := hrel
      have HPM := Lib.hid hperm
      have HLE := Lib.hid hown
      have HBE7 := Lib.hid hbe
      have HLL := Lib.hid (show L.length ≤ 2000 by have h1 := hperm.length_eq; have h2 := HBL.out j hj; omega)
      clear hperm hown hbe
      by_cases hjk : j < k
      · have hjl : j < ts.length := by rw [HLN.out]; omega
        obtain ⟨aj, cj, hat, hsl⟩ := HCT.out j hjl
        have HSJ := Lib.hid hsl
        have HTJ := Lib.hid (HT.out _ (List.getElem_mem hjl))
        have HGJ := Lib.hid (tkGet hjl)
        have HB8 := Lib.hid (HB7.out.trans (HBE7.out.mono HB7.out.size))
        obtain ⟨c0, c1, c2⟩ := (hat.below HB8.out hbb).c3
        have hbz8 : b < wr.heap.size := Nat.lt_of_lt_of_le hbb HB8.out.size
        have HO8 := Lib.hid (HO7.out.later HBE7.out)
        obtain ⟨go, co, hvo, hg1, hg2⟩ := HO8.out.form (by rw [HOL.out]; omega)
        rw [HOL.out] at hvo
        injection hvo with e1 e2 e3
        subst e1 e3
        clear e2
        have hjo : j < outs.length := by rw [HOL.out]; exact hjk
        have ho := (HO8.out.atN HOL.out encI_len j hjo).c1
        rw [Nat.mul_one] at ho
        have HOJ := Lib.hid (getD_at outs j hjo)
        obtain ⟨hs0, hs1⟩ := HBD.out j hjk
        rw [HOJ.out] at hs0 hs1
        clear hat hsl
        generalize outs[j] = sj at *
        generalize ts[j] = tj at *
        clear hjl hjo
        obtain ⟨pathj, gj, rj⟩ := tj
        dsimp only at c0 c1 c2 HSJ HTJ
        obtain ⟨pj, hpj⟩ : ∃ m, pathj.length = m := ⟨_, rfl⟩
        rw [hpj] at c0 HSJ
        clear hpj
        have HX8 := Lib.hid (HX7.out.later HBE7.out)
        have H78 := Lib.hid (H7.out.later HBE7.out)
        have HB9 := Lib.hid (HB8.out.alloc (by have := HB8.out.size; omega) (.cells #[.slice aj pj cj, .string gj, .int .i64 rj] 114))
        have HX9 := Lib.hid (HX8.out.alloc (.cells #[.slice aj pj cj, .string gj, .int .i64 rj] 114))
        have H79 := Lib.hid (H78.out.alloc (.cells #[.slice aj pj cj, .string gj, .int .i64 rj] 114))
        have HJ9 := Lib.hid (Box.new wr #[.slice aj pj cj, .string gj, .int .i64 rj] 114)
        have HL9 := Lib.hid (HLE.out.alloc (.cells #[.slice aj pj cj, .string gj, .int .i64 rj] 114))
        have HE9 := Lib.hid (HBE7.out.alloc (by have := HBE7.out.size; omega) (.cells #[.slice aj pj cj, .string gj, .int .i64 rj] 114))
        have ho9 : (wr.alloc (.cells #[.slice aj pj cj, .string gj, .int .i64 rj] 114)).cell? ⟨go, j, none⟩ = some (.int .i64 sj) := (((Below.refl wr.heap.size wr).alloc (Nat.le_refl _) (.cells #[.slice aj pj cj, .string gj, .int .i64 rj] 114)).cell (p := ⟨go, j, none⟩) hg2).trans ho
        have hg9 : go < (wr.alloc (.cells #[.slice aj pj cj, .string gj, .int .i64 rj] 114)).heap.size := by simp; omega
        clear ho
        go_wp2_with fail
        obtain ⟨W9, hW9⟩ : ∃ W, wr.alloc (.cells #[.slice aj pj cj, .string gj, .int .i64 rj] 114) = W := ⟨_, rfl⟩
        rw [hW9] at HB9 HX9 H79 HJ9 HL9 HE9 ho9 hg9 ⊢
        clear hW9 c0 c1 c2
        obtain ⟨x0, x1, xf, xz⟩ := HX9.out.v2
        have y0 := H79.out.cell 0
        have y1 := H79.out.cell 1
        have y2 := H79.out.cell 2
        have yz := H79.out.lt
        have z0 := HJ9.out.cell 0
        have z1 := HJ9.out.cell 1
        have z2 := HJ9.out.cell 2
        have zz := HJ9.out.lt
        simp only [List.getElem?_cons_zero, List.getElem?_cons_succ] at y0 y1 y2 z0 z1 z2
        have HK : Hid (∀ W', (W' = { W9 with drawn := W9.drawn + 1 } ∨ ∃ v, BarD W9 p ts k j sj v W') → ∃ X : Keep W9 (fun b _ => b < W9.heap.size), W' = X.w) := Lib.hid (by
          rintro W' (rfl | ⟨v, _, _, _, hb⟩)
          · exact ⟨⟨{ W9 with drawn := W9.drawn + 1 }, fun b o hb => rfl⟩, rfl⟩
          · exact ⟨⟨W', fun b o hbb => (bcell hb).1 b o hbb⟩, rfl⟩)
        refine wp_region_callflow 9 8 _ 114 (BarD W9 p ts k j sj) (by kernel_rfl) (by kernel_rfl) rfl ?_
        apply Exists.intro
        refine ⟨fun W' hW' => ?_, ?_⟩
        · obtain ⟨X, hX⟩ := HK.out W' hW'
          subst hX
          rw [← keep1_class X]
          simp only [headsOf, List.take_succ_cons, List.drop_succ_cons, List.take_zero, List.drop_zero, Nat.reduceSub, List.cons_append, List.nil_append]
          repeat go_big_quiet_step (fail)
          exact wpQuiet_nil rfl
        apply Exists.intro
        refine ⟨?_, ?_, ?_⟩
        · go_simp
          first | done | rfl
        · refine (HBR.out { W9 with drawn := W9.drawn + 1 } (HB9.out.trans ((below_dr W9).mono HB9.out.size)) ⟨pathk, gk, rk⟩ ⟨pathj, gj, rj⟩ sj _ _ HSL.out HSJ.out HTK.out HTJ.out (by omega)).mono ?_
          rintro e w4 ⟨v, L2, rfl, ho, hpm, hb⟩
          exact ⟨_, rfl, L2, ho, by unfold barT; rw [HGK.out, HGJ.out]; exact hpm, (below_dr W9).trans hb⟩
        · rintro v w4 ⟨L2, ho, hpm, hb⟩
          have HO4 := Lib.hid ho
          have HPM2 := Lib.hid hpm
          have HE4 := Lib.hid (HE9.out.trans (hb.mono HE9.out.size))
          have HL4 := Lib.hid (HL9.out.later hb)
          have HLB := Lib.hid (show L2.length ≤ 1000000 by have h1 := hpm.length_eq; have h2 := HBL.out (j + 1) (by omega); rw [barsT_succ, List.length_append, HOJ.out] at h2; omega)
          have HLLB := Lib.hid (show L.length + L2.length ≤ 2000000000 by have := HLL.out; have := HLB.out; omega)
          have HPM3 := Lib.hid (show (L ++ L2).Perm (barsT p ts outs k (j + 1)) by rw [barsT_succ, HOJ.out]; exact HPM.out.append hpm)
          clear ho hpm hb HK x0 x1 xf xz y0 y1 y2 yz z0 z1 z2 zz ho9 hg9
          simp only [Act.put, List.setIfInBounds_toArray, List.set_cons_succ, List.set_cons_zero, List.drop_succ_cons, List.drop_zero]
          go_wp2_with (at_builtin; refine wpList_catO Ar.enc 2 16 23 123 _ HTA.out HIA.out rfl (by decide) (by decide) Ar.enc_len Ar.enc_one L L2 W7.heap.size W9.heap.size w4 _ _ HL4.out HE4.out.size HLLB.out HO4.out rfl _ _ rfl rfl rfl ?_; intro v' w5 hown' hg'; obtain ⟨a', cap', rfl⟩ := hown'.shape; rw [List.length_append] at hown'; have HOW := Lib.hid hown'; have HGR := Lib.hid (grown_below HE4.out hg' HE4.out.size (HL4.out.lt') (Nat.le_refl _)); clear hown' hg')
          go_roundw
          case rel => exact ⟨j + 1, by omega, by go_num, L ++ L2, HPM3.out, HOW.out, HGR.out⟩
          case measure => simp [intOf]; omega
      obtain rfl : k = j := by omega
      have HSRT := Lib.hid (sort147 wr W7.heap.size _ L HLE.out (by have := HLL.out; omega))
      obtain ⟨a8, c8, hv8⟩ := HLE.out.shape
      obtain ⟨nl, hnl⟩ : ∃ m, L.length = m := ⟨_, rfl⟩
      rw [hnl] at hv8 HLL
      subst hv8
      have HNL := Lib.hid hnl
      clear hnl
      go_wp2_with fail
      refine HSRT.out.mono ?_
      rintro e w8 ⟨rfl, T, hp8, hs8, ho8, hg8⟩
      have HE8 := Lib.hid (grown_below HBE7.out hg8 HBE7.out.size (HLE.out.lt') (Nat.le_refl _))
      have HT8 := Lib.hid (hp8.trans HPM.out)
      have HS8 := Lib.hid hs8
      have HO8 := Lib.hid ho8
      have HTN := Lib.hid (hp8.length_eq.trans HNL.out)
      have HBT := Lib.hid (fun x (hx : x ∈ T) => HBB.out x ((hp8.trans HPM.out).mem_iff.1 hx))
      clear hp8 hs8 ho8 hg8 HSRT HLE HBE7 HPM
      have hln : nl ≤ 2000 := HLL.out
      go_wp2_with fail
      go_loopw [45, 11] (fun i s wr => ∃ q : Nat, q ≤ nl ∧ i = .int .i64 q ∧ ∃ z : Int, s = .int .i64 z ∧ Least (T.take q) z ∧ z ≤ 10000000 * k + 7000000 ∧ Below w8.heap.size w8 wr) (fun i _ _ => nl - (intOf i).toNat)
      case atStart => exact ⟨0, by omega, rfl, 0, rfl, Least.nil, by omega, Below.refl _ _⟩
      case round =>
        obtain ⟨q, hq, rfl, z, rfl, hle, hz, hbe⟩ := hrel
        have HLS := Lib.hid hle
        have HBE8 := Lib.hid hbe
        have hz0 := hle.nn
        clear hle hbe
        by_cases hqn : q < nl
        · have hqT : q < T.length := by rw [HTN.out]; exact hqn
          obtain ⟨g8, c8', hv8, hg81, hg82⟩ := HO8.out.form (by rw [HTN.out]; omega)
          rw [HTN.out] at hv8
          injection hv8 with e1 e2 e3
          subst e1 e3
          clear e2
          obtain ⟨d0, d1⟩ := ((HO8.out.atN HTN.out Ar.enc_len q hqT).below HBE8.out hg82).c2
          have hg83 := Nat.lt_of_lt_of_le hg82 HBE8.out.size
          have HLT := Lib.hid (least_take HS8.out hqT HLS.out)
          obtain ⟨hb0, hb1, hb2, hb3⟩ := HBT.out T[q] (List.getElem_mem hqT)
          generalize T[q] = x at *
          clear hqT
          obtain ⟨xf, xt⟩ := x
          dsimp only at d0 d1 hb0 hb1 hb2 hb3
          unfold pushS at HLT
          dsimp only at HLT
          have HBA := Lib.hid (HBE8.out.alloc HBE8.out.size (.cells #[.int .i64 xf, .int .i64 xt] 123))
          by_cases h1 : xf ≤ z
          · have k1 : decide (xf ≤ z) = true := decide_eq_true h1
            rw [if_pos h1] at HLT
            clear h1
            obtain ⟨mx, hmx⟩ : ∃ y, max z (xt + 1) = y := ⟨_, rfl⟩
            have hmb : mx ≤ 10000000 * k + 7000000 := by rw [← hmx]; omega
            rw [show (if z < xt + 1 then xt + 1 else z) = mx by rw [← hmx]; split <;> omega] at HLT
            go_wp2_with fail
            go_roundw
            case rel => exact ⟨q + 1, by omega, by go_num, mx, rfl, HLT.out, hmb, HBA.out⟩
            case measure => simp [intOf]; omega
          · have k1 : decide (xf ≤ z) = false := decide_eq_false h1
            rw [if_neg h1] at HLT
            clear h1
            go_wp2_with fail
            go_roundw
            case rel => exact ⟨q + 1, by omega, by go_num, z, rfl, HLT.out, hz, HBA.out⟩
            case measure => simp [intOf]; omega
        obtain rfl : nl = q := by omega
        have HLF := Lib.hid (show Least (barsT p ts outs k k) z by
          have := HLS.out
          rw [List.take_of_length_le (by rw [HTN.out]; exact Nat.le_refl _)] at this
          exact this.perm HT8.out)
        have HE9 := Lib.hid (HE8.out.trans (HBE8.out.mono HE8.out.size))
        have HO9 := Lib.hid (HO7.out.later HE9.out)
        have HB9 := Lib.hid (HB7.out.trans (HE9.out.mono HB7.out.size))
        have HX9 := Lib.hid (HX7.out.later HE9.out)
        have HLK : Hid (outs.length ≤ 1000000) := Lib.hid (by rw [HOL.out]; omega)
        have HWS := Lib.hid (show w.heap.size + 1 ≤ wr.heap.size by have := HX9.out.lt; omega)
        go_wp2_with (at_builtin; refine wpList_push encI 1 8 26 3 _ HTI.out HII.out rfl (by decide) (by decide) encI_len encI_one outs z (w.heap.size + 1) wr _ rfl _ HO9.out HWS.out HLK.out rfl _ _ rfl rfl rfl ?_; intro v' w' hown' hg'; obtain ⟨a', cap', rfl⟩ := hown'.shape; rw [List.length_append, List.length_singleton] at hown'; have HOW := Lib.hid hown'; have HGR := Lib.hid (HB9.out.grown hg' HB9.out.size (fun k e => by have := HO9.out.lt' k e; omega)); have HXR := Lib.hid (HX9.out.kept hg' (fun e => by have := HO9.out.lt' _ e.symm; omega)); clear hown' hg')
        go_roundw
        case rel =>
          refine ⟨k + 1, by omega, by go_num, outs ++ [z], by rw [List.length_append, HOL.out]; rfl, HSCH.out.snoc (by rw [HOL.out]; exact HLF.out), fun i hi => ?_, HOW.out, HXR.out, HGR.out⟩
          rcases Nat.lt_succ_iff_lt_or_eq.1 hi with h1 | h1
          · have := HBD.out i h1
            rwa [List.getD_eq_getElem?_getD, List.getElem?_append_left (by rw [HOL.out]; exact h1), ← List.getD_eq_getElem?_getD]
          · subst h1
            rw [List.getD_eq_getElem?_getD, List.getElem?_append_right (by rw [HOL.out]; exact Nat.le_refl _), HOL.out, Nat.sub_self]
            simp
            omega
        case measure => simp [intOf]; omega
end Go.Proofs.YtahpdkkpnkhnhaaGreatDoor

/- Walks: Schedule; Bound. -/
namespace Go.Proofs.YtahpdkkpnkhnhaaGreatDoor
open Go Go.Proofs Go.RowKit Go.Shelf

def SchE (w : World) (p : Pl) (ts : List Tk) (e : Ending) (w' : World) : Prop :=
  ∃ v outs, e = .returned (.tuple #[v, .int .i64 (ckTasks p ts)]) ∧ Own encI 1 3 w' w.heap.size v outs ∧ (if ckTasks p ts ≠ 0 then outs = [] else outs.length = ts.length ∧ SchedR p ts outs) ∧ Below w.heap.size w w'
set_option maxRecDepth 100000 in
set_option maxHeartbeats 1000000 in
theorem schedule54 (w : World) (v1 v2 u : Value) (p : Pl) (ts : List Tk) (hw : WdR w) (hv : PlR w w.heap.size v1 v2 p) (hu : TasksR w w.heap.size u ts) (hs : SzT ts) : Calls Tryz.prog 54 #[.agg #[v1, v2], u] w (SchE w p ts) := by
  have HP := Lib.hid (fun (w1 : World) (hb : Below w.heap.size w w1) => checkTasks53 w1 _ _ u p ts (hw.later hb) (hv.later hb) (hu.later hb) hs)
  have HI := Lib.hid (fun (w1 : World) (hb : Below w.heap.size w w1) (h : ckTasks p ts = 0) => schedule113 w1 _ _ u p ts (hv.later hb) (hu.later hb) (ckTasks_ok h).1 (fun t ht => (ckTk_ok ((ckTasks_ok h).2.2 t ht)).1) (ckTasks_ok h).2.1)
  obtain ⟨a1, n1, a2, n2, rfl, rfl⟩ := hv.agg
  clear hw hv hu hs
  have HB := Lib.hid ((Below.refl w.heap.size w).alloc (Nat.le_refl _) (.cells #[.slice a1 p.ms.length n1, .slice a2 p.arcs.length n2] 25))
  have HX := Lib.hid (Box.new w #[.slice a1 p.ms.length n1, .slice a2 p.arcs.length n2] 25)
  obtain ⟨Q, hQ⟩ : ∃ Q, SchE w p ts = Q := ⟨_, rfl⟩
  rw [hQ]
  unfold SchE at hQ
  obtain ⟨cp, hcp⟩ : ∃ c, ckTasks p ts = c := ⟨_, rfl⟩
  rw [hcp] at HP HI hQ
  have HQ : Hid (∀ v outs w', Own encI 1 3 w' w.heap.size v outs → (if cp ≠ 0 then outs = [] else outs.length = ts.length ∧ SchedR p ts outs) → Below w.heap.size w w' → Q (.returned (.tuple #[v, .int .i64 cp])) w') := Lib.hid (fun v outs w' h1 h2 h3 => by rw [← hQ]; exact ⟨v, outs, rfl, h1, h2, h3⟩)
  clear hQ hcp
  go_enter Tryz.func54, Tryz.ntmps54
  go_wp2_with fail
  refine (HP.out _ HB.out).mono ?_
  rintro e w2 ⟨rfl, hb2⟩
  have HB2 := Lib.hid (HB.out.trans (hb2.mono HB.out.size))
  obtain ⟨x0, x1, xf, xz⟩ := (HX.out.later hb2).v2
  clear hb2
  by_cases hc0 : cp = 0
  rotate_left
  · have k0 : (cp != 0) = true := by simpa using hc0
    have HC0 := Lib.hid hc0
    clear hc0
    go_wp2_with fail
    exact HQ.out _ [] _ (Own.nil _ _ _ _ _) (by rw [if_pos HC0.out]) HB2.out
  subst hc0
  have HI2 := Lib.hid (fun (w1 : World) (hb : Below w.heap.size w w1) => HI.out w1 hb rfl)
  clear HI
  go_wp2_with fail
  refine (HI2.out _ HB2.out).mono ?_
  rintro e w3 ⟨v, outs, rfl, ho, hl, hsc, hb3⟩
  have HB3 := Lib.hid (HB2.out.trans (hb3.mono HB2.out.size))
  have HO3 := Lib.hid (ho.lower HB2.out.size)
  have HL3 := Lib.hid hl
  have HS3 := Lib.hid hsc
  obtain ⟨av, cv, rfl⟩ := ho.shape
  clear ho hl hsc hb3
  go_wp2_with fail
  exact HQ.out _ outs _ HO3.out (by rw [if_neg (by simp)]; exact ⟨HL3.out, HS3.out⟩) HB3.out

/-- What a task adds at machine m: the least way ahead of it, its time there, the least way behind it. -/
def bStep (p : Pl) (m : Int) (z : Int × Int × Int) (t : Tk) : Int × Int × Int :=
  match useF p t.run 0 t.path m with
  | none => z
  | some (f, l) => (if z.2.1 = 0 ∨ f < z.1 then f else z.1, z.2.1 + l, if z.2.1 = 0 ∨ tSum p t.path - f - tAt p m < z.2.2 then tSum p t.path - f - tAt p m else z.2.2)
def bMach (p : Pl) (ts : List Tk) (m : Int) : Int × Int × Int := ts.foldl (bStep p m) (-1, 0, -1)
def bPut (o : Int) (z : Int × Int × Int) : Int := if 0 < z.2.1 then max o (z.1 + z.2.1 + z.2.2) else o
def boundTo (p : Pl) (ts : List Tk) : Nat → Int
  | 0 => 0
  | k + 1 => bPut (boundTo p ts k) (bMach p ts k)
theorem foldl_snoc {α β : Type} (f : β → α → β) (z : β) (l : List α) (k : Nat) (h : k < l.length) : (l.take (k + 1)).foldl f z = f ((l.take k).foldl f z) l[k] := by
  rw [take_snoc l k h, List.foldl_append]; rfl
theorem tSum_bd {p : Pl} (hp : OkP p) : ∀ {l : List Int}, (∀ x ∈ l, inN p.ms.length x = true) → 0 ≤ tSum p l ∧ tSum p l ≤ 100000 * l.length
  | [], _ => by simp [tSum]
  | x :: r, hin => by
    obtain ⟨k, rfl, hk⟩ := inN_nat (hin x (by simp))
    have h1 := hp.times p.ms[k] (List.getElem_mem hk)
    rw [← tAt_nat hk] at h1
    have h2 := tSum_bd hp (l := r) (fun x hx => hin x (by simp [hx]))
    rw [tSum]
    simp only [List.length_cons]
    omega
def bndP (k : Nat) (z : Int × Int × Int) : Prop := -1 ≤ z.1 ∧ z.1 ≤ 7000000 ∧ 0 ≤ z.2.1 ∧ z.2.1 ≤ 200000 * k ∧ -10000000 ≤ z.2.2 ∧ z.2.2 ≤ 10000000
theorem bndP_step {p : Pl} {t : Tk} {m : Nat} {k : Nat} {z : Int × Int × Int} (hp : OkP p) (ht : OkT p t) (hm : m < p.ms.length) (h : bndP k z) : bndP (k + 1) (bStep p m z t) := by
  obtain ⟨a, s, b⟩ := z
  obtain ⟨h1, h2, h3, h4, h5, h6⟩ := h
  dsimp only at h1 h2 h3 h4 h5 h6
  have l1 := ht.len; have l3 := hp.le
  have e2 := tSum_bd hp ht.ins
  have e3 := hp.times p.ms[m] (List.getElem_mem hm)
  rw [← tAt_nat hm] at e3
  unfold bStep
  cases hu : useF p t.run 0 t.path m with
  | none => exact ⟨h1, h2, h3, by dsimp only; omega, h5, h6⟩
  | some fl =>
    obtain ⟨f, l⟩ := fl
    have e1 := useF_bd hp.times ht.run ht.ins hu
    refine ⟨?_, ?_, ?_, ?_, ?_, ?_⟩ <;> dsimp only <;> (try split) <;> omega
end Go.Proofs.YtahpdkkpnkhnhaaGreatDoor
