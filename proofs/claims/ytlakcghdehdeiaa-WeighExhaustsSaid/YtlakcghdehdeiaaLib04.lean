/- Lemmas on the way to the laws (part 4): V W X Y Z -/
import Derived.Test.YtlakcghdehdeiaaLib03
import Derived.WalkSmall
set_option linter.unusedVariables false
set_option linter.unusedSimpArgs false

/- Walks: sizes of books; ranges compared. -/
namespace Go.Proofs.Ytlakcghdehdeiaa
open Go Go.Proofs Go.RowKit

def sizeB (n m : Nat) : Bool := decide ((8 < n ∧ n ≤ 32) ∨ 40 < n ∨ (12 < m ∧ m ≤ 128) ∨ 132 < m)
def heavyB (b : Bk) : Bool := sizeB b.st.length b.ts.length || b.ts.any fun t => decide (40 < t.id.size)
set_option maxHeartbeats 1000000 in
theorem heavy23 (v1 v2 : Value) (b : Bk) (w : World) (hv : BkR w w.heap.size v1 v2 b) :
    Calls Try.prog 23 #[.agg #[v1, v2]] w (Ret (.bool (heavyB b)) w) := by
  obtain ⟨⟨a1, c1, rfl, hl1, hA1⟩, ⟨a2, c2, rfl, hl2, hA2⟩, hids⟩ := hv
  have HA2 := Lib.hid hA2
  clear hA2
  have HIDS := Lib.hid hids
  clear hids
  clear hA1
  obtain ⟨R, hR⟩ : ∃ R, heavyB b = R := ⟨_, rfl⟩
  rw [hR]
  have HR := Lib.hid hR
  clear hR
  have W1 : Below w.heap.size w (w.alloc (.cells #[.slice a1 b.st.length c1, .slice a2 b.ts.length c2] 38)) := (Below.refl _ _).alloc (Nat.le_refl _) _
  have HW1 := Lib.hid W1
  clear W1
  go_enter Try.func23, Try.ntmps23
  by_cases hs : sizeB b.st.length b.ts.length = true
  · have hc : Hid (R = true) := by rw [← HR.out]; unfold heavyB; rw [hs]; exact Lib.hid rfl
    simp only [sizeB, decide_eq_true_eq] at hs
    have hcs : (8 < b.st.length ∧ b.st.length ≤ 32) ∨ 40 < b.st.length ∨ (b.st.length ≤ 8 ∧ 12 < b.ts.length ∧ b.ts.length ≤ 128) ∨ (b.st.length ≤ 8 ∧ 132 < b.ts.length) ∨ ((32 < b.st.length ∧ b.st.length ≤ 40) ∧ 12 < b.ts.length ∧ b.ts.length ≤ 128) ∨ ((32 < b.st.length ∧ b.st.length ≤ 40) ∧ 132 < b.ts.length) := by omega
    clear hs
    rcases hcs with ⟨h1, h2⟩ | h1 | ⟨h1, h2, h3⟩ | ⟨h1, h2⟩ | ⟨⟨h1, h2⟩, h3, h4⟩ | ⟨⟨h1, h2⟩, h3⟩
    all_goals go_wp2_with fail
    all_goals go_ret
    all_goals exact Ret.mk (by rw [hc.out]; rfl) HW1.out
  · have HR2 : Hid ((b.ts.any fun t => decide (40 < t.id.size)) = R) := by
      rw [← HR.out]; unfold heavyB; rw [(Bool.not_eq_true _).mp hs]; exact Lib.hid rfl
    clear HR
    simp only [sizeB, decide_eq_true_eq] at hs
    have hcs : (b.st.length ≤ 8 ∧ b.ts.length ≤ 12) ∨ (b.st.length ≤ 8 ∧ 128 < b.ts.length ∧ b.ts.length ≤ 132) ∨ ((32 < b.st.length ∧ b.st.length ≤ 40) ∧ b.ts.length ≤ 12) ∨ ((32 < b.st.length ∧ b.st.length ≤ 40) ∧ 128 < b.ts.length ∧ b.ts.length ≤ 132) := by omega
    clear hs
    rcases hcs with ⟨h1, h2⟩ | ⟨h1, h2, h3⟩ | ⟨⟨h1, h2⟩, h3⟩ | ⟨⟨h1, h2⟩, h3, h4⟩
    all_goals go_wp2_with fail
    all_goals
      go_loopw [3] (fun j wr => ∃ k : Nat, k ≤ b.ts.length ∧ j = .int .i64 k ∧ Below w.heap.size w wr ∧ Box wr w.heap.size 38 [.slice a1 b.st.length c1, .slice a2 b.ts.length c2] ∧ ((b.ts.drop k).any fun t => decide (40 < t.id.size)) = R) (fun j _ => b.ts.length - (intOf j).toNat)
      case atStart => exact ⟨0, by omega, rfl, HW1.out, Box.newAt _ _ _ rfl, HR2.out⟩
      case round =>
        clear HR2
        obtain ⟨k, hk, rfl, hbe, hx0, hrel⟩ := hrel
        have HL := Lib.hid hrel
        clear hrel
        have d0 := hx0.cell 0
        have d1 := hx0.cell 1
        have dz := hx0.lt
        simp only [List.getElem?_cons_zero, List.getElem?_cons_succ] at d0 d1
        by_cases hlt : k < b.ts.length
        · obtain ⟨bb, off, rfl, hbb, hcells⟩ := HA2.out (by omega)
          obtain ⟨e0, e1, e2, e3, e4⟩ := ((hcells k hlt).below hbe hbb).c5
          clear hcells HA2 e1 e2 e3 e4
          have hsz := HIDS.out b.ts[k] (List.getElem_mem hlt)
          rw [List.drop_eq_getElem_cons hlt, List.any_cons] at HL
          generalize b.ts[k] = t at *
          by_cases h9 : 40 < t.id.size
          · go_wp2_with fail
            go_ret
            exact Ret.mk (by rw [← HL.out, decide_eq_true h9]; rfl) hbe
          · go_wp2_with fail
            go_roundw
            case rel => exact ⟨k + 1, by omega, by go_num, hbe, hx0, by have h := HL.out; rw [decide_eq_false h9] at h; exact h⟩
            case measure => simp [intOf]; omega
        · obtain rfl : b.ts.length = k := by omega
          go_wp2_with fail
          go_ret
          have h := HL.out
          rw [List.drop_length] at h
          exact Ret.mk (by rw [← h]; rfl) hbe

end Go.Proofs.Ytlakcghdehdeiaa

/- Walks: ranges compared, light and tiny books. -/
namespace Go.Proofs.Ytlakcghdehdeiaa
open Go Go.Proofs Go.RowKit

deriving instance DecidableEq for Rg
def rangesP (l : List Rg) (e n : Int) (r : List Rg) : Prop := if n ≠ 0 then l = [] ∧ e = n else e = 0 ∧ l = r
instance (l : List Rg) (e n : Int) (r : List Rg) : Decidable (rangesP l e n r) := by unfold rangesP; exact inferInstance
set_option maxHeartbeats 400000 in
theorem ranges21 (v r : Value) (l lr : List Rg) (e n : Int) (w : World) (hl : Sl Rg.enc 2 w w.heap.size v l) (hr : Sl Rg.enc 2 w w.heap.size r lr) :
    Calls Try.prog 21 #[v, .int .i64 e, .int .i64 n, r] w (Ret (.bool (decide (rangesP l e n lr))) w) := by
  obtain ⟨a1, c1, rfl, hl1, hA1⟩ := hl
  obtain ⟨a2, c2, rfl, hl2, hA2⟩ := hr
  obtain ⟨R, hR⟩ : ∃ R, decide (rangesP l e n lr) = R := ⟨_, rfl⟩
  rw [hR]
  have HR := Lib.hid hR
  clear hR
  have HA1 := Lib.hid hA1
  clear hA1
  have HA2 := Lib.hid hA2
  clear hA2
  by_cases hn : n = 0
  · subst hn
    by_cases he : e = 0
    · subst he
      by_cases hlen : l.length = lr.length
      · obtain ⟨m, hm⟩ : ∃ m, lr.length = m := ⟨_, rfl⟩
        rw [hm] at hlen
        rw [hm] at hl2 ⊢
        rw [hlen] at hl1 ⊢
        have HM := Lib.hid hm
        clear hm
        have HLEN := Lib.hid hlen
        clear hlen
        go_enter Try.func21, Try.ntmps21
        go_wp2_with fail
        go_loopw [9] (fun j wr => ∃ k : Nat, k ≤ m ∧ j = .int .i64 k ∧ Below w.heap.size w wr ∧ decide (l.drop k = lr.drop k) = R) (fun j _ => m - (intOf j).toNat)
        case atStart => exact ⟨0, by omega, rfl, Below.refl _ _, by rw [← HR.out]; simp [rangesP]⟩
        case round =>
          clear HR
          obtain ⟨k, hk, rfl, hbe, hrel⟩ := hrel
          have hz := hbe.size
          have HL := Lib.hid hrel
          clear hrel
          by_cases hlt : k < m
          · obtain ⟨b1, o1, rfl, hb1, hcells1⟩ := HA1.out (by rw [HLEN.out]; omega)
            obtain ⟨e0, e1⟩ := ((hcells1 k (by rw [HLEN.out]; exact hlt)).below hbe hb1).c2
            obtain ⟨b2, o2, rfl, hb2, hcells2⟩ := HA2.out (by rw [HM.out]; omega)
            obtain ⟨f0, f1⟩ := ((hcells2 k (by rw [HM.out]; exact hlt)).below hbe hb2).c2
            have hd : Hid (l.drop k = lr.drop k ↔ l[k]'(by rw [HLEN.out]; exact hlt) = lr[k]'(by rw [HM.out]; exact hlt) ∧ l.drop (k + 1) = lr.drop (k + 1)) := Lib.hid (by
              rw [List.drop_eq_getElem_cons (l := l) (i := k) (by rw [HLEN.out]; exact hlt), List.drop_eq_getElem_cons (l := lr) (i := k) (by rw [HM.out]; exact hlt)]
              simp only [List.cons.injEq])
            clear hcells1 hcells2 HA1 HA2
            generalize l[k]'_ = x at *
            generalize lr[k]'_ = y at *
            obtain ⟨x1, x2⟩ := x
            obtain ⟨y1, y2⟩ := y
            dsimp only at *
            by_cases hx : x1 = y1
            by_cases hy : x2 = y2
            · obtain rfl := hx
              obtain rfl := hy
              go_wp2_with fail
              go_region
              go_wp2_with fail
              go_roundw
              case rel => exact ⟨k + 1, by omega, by go_num, hbe.drew, by rw [← HL.out]; simp [hd.out]⟩
              case measure => simp [intOf]; omega
            · go_wp2_with fail
              go_region
              go_wp2_with fail
              go_ret
              refine Ret.mk (congrArg Value.bool ?_) hbe.drew
              rw [← HL.out]; simp [hd.out, hy]
            · go_wp2_with fail
              go_region
              go_wp2_with fail
              go_ret
              refine Ret.mk (congrArg Value.bool ?_) hbe.drew
              rw [← HL.out]; simp [hd.out, hx]
          · obtain rfl : m = k := by omega
            go_wp2_with fail
            go_ret
            refine Ret.mk (congrArg Value.bool ?_) hbe
            have hdr : lr.drop m = [] := by rw [← HM.out, List.drop_length]
            have hdl : l.drop m = [] := by rw [← HLEN.out, List.drop_length]
            rw [← HL.out, hdr, hdl]; rfl
      · go_enter Try.func21, Try.ntmps21
        go_wp2_with fail
        go_ret
        refine Ret.mk (congrArg Value.bool ?_) (Below.refl _ _)
        rw [← HR.out]; simp [rangesP]
        intro h; exact hlen (congrArg List.length h)
    · go_enter Try.func21, Try.ntmps21
      go_wp2_with fail
      go_ret
      refine Ret.mk (congrArg Value.bool ?_) (Below.refl _ _)
      rw [← HR.out]; simp [rangesP, he]
  · by_cases h0 : l.length = 0
    · go_enter Try.func21, Try.ntmps21
      go_wp2_with fail
      go_ret
      refine Ret.mk (congrArg Value.bool ?_) (Below.refl _ _)
      rw [← HR.out]; simp [rangesP, hn, List.length_eq_zero_iff.1 h0]
      by_cases h : e = n <;> simp [h]
    · go_enter Try.func21, Try.ntmps21
      go_wp2_with fail
      go_ret
      refine Ret.mk (congrArg Value.bool ?_) (Below.refl _ _)
      rw [← HR.out]; simp [rangesP, hn]
      intro h; simp [h] at h0
end Go.Proofs.Ytlakcghdehdeiaa

/- Walks: light and tiny books. -/
namespace Go.Proofs.Ytlakcghdehdeiaa
open Go Go.Proofs Go.RowKit

theorem ckRgs_ok : ∀ l : List Rg, ckRgs l = 0 ↔ ∀ r ∈ l, ckRange r = 0
  | [] => by simp [ckRgs]
  | r :: l => by
    have ih := ckRgs_ok l
    unfold ckRgs
    by_cases h : ckRange r = 0
    · simp [h, ih]
    · simp [h]
theorem ckTksL_ok (b : Bk) : ∀ (l : List Tk) (i : Nat), ckTksL b i l = 0 ↔ ∀ j t, l[j]? = some t → ckTk b (i + j) t = 0
  | [], i => by simp [ckTksL]
  | t :: l, i => by
    have ih := ckTksL_ok b l (i + 1)
    unfold ckTksL
    by_cases h : ckTk b i t = 0
    · rw [if_pos h, ih]
      constructor
      · intro H j t' ht
        cases j with
        | zero => simp at ht; subst ht; exact h
        | succ j => have := H j t' (by simpa using ht); rwa [Nat.add_assoc, Nat.add_comm 1 j] at this
      · intro H j t' ht
        have := H (j + 1) t' (by simpa using ht)
        rwa [Nat.add_assoc, Nat.add_comm 1 j]
    · rw [if_neg h]
      exact ⟨fun H => absurd H h, fun H => absurd (by simpa using H 0 t rfl) h⟩
theorem ckBook_ok (b : Bk) : ckBook b = 0 ↔ b.st.length ≤ 32 ∧ (∀ r ∈ b.st, ckRange r = 0) ∧ b.ts.length ≤ 128 ∧ ∀ i t, b.ts[i]? = some t → ckTk b i t = 0 := by
  have h1 := ckRgs_ok b.st
  have h2 := ckTksL_ok b b.ts 0
  simp only [Nat.zero_add] at h2
  rw [← h1, ← h2]
  unfold ckBook
  by_cases a1 : 32 < b.st.length
  · rw [if_pos a1]; simp; omega
  rw [if_neg a1]
  by_cases a2 : ckRgs b.st = 0
  · rw [if_neg (by simp [a2])]
    by_cases a3 : 128 < b.ts.length
    · rw [if_pos a3]; simp; omega
    · rw [if_neg a3]; simp [a2]; omega
  · rw [if_pos a2]; simp [a2]

def lightB (b : Bk) : Bool := decide (b.st.length ≤ 6 ∧ b.ts.length ≤ 8 ∧ ckBook b = 0)
set_option maxHeartbeats 400000 in
theorem light34 (v1 v2 : Value) (b : Bk) (w : World) (hv : BkR w w.heap.size v1 v2 b) :
    Calls Try.prog 34 #[.agg #[v1, v2]] w (Ret (.bool (lightB b)) w) := by
  have W1 : ∀ vs, Below w.heap.size w (w.alloc (.cells vs 38)) := fun _ => (Below.refl _ _).alloc (Nat.le_refl _) _
  have HC := Lib.hid (fun vs => ckBook24 v1 v2 b _ (hv.later (W1 vs)))
  have HW1 := Lib.hid W1
  clear W1
  obtain ⟨⟨a1, c1, rfl, hl1, hA1⟩, ⟨a2, c2, rfl, hl2, hA2⟩, hids⟩ := hv
  clear hA1 hA2 hids
  obtain ⟨n, hn⟩ : ∃ n, ckBook b = n := ⟨_, rfl⟩
  rw [hn] at HC
  obtain ⟨R, hR⟩ : ∃ R, lightB b = R := ⟨_, rfl⟩
  rw [hR]
  unfold lightB at hR
  rw [hn] at hR
  clear hn
  have HR := Lib.hid hR
  clear hR
  by_cases h1 : b.st.length ≤ 6
  · by_cases h2 : b.ts.length ≤ 8
    · by_cases h3 : n = 0
      all_goals
        go_enter Try.func34, Try.ntmps34
        go_wp2_with (go_at_call 24; refine (HC.out _).mono ?_; rintro e w3 ⟨rfl, hb3⟩)
        go_ret
        exact Ret.mk (congrArg Value.bool (by rw [← HR.out]; simp [h1, h2, h3])) ((HW1.out _).trans (hb3.mono (HW1.out _).size))
    · go_enter Try.func34, Try.ntmps34
      go_wp2_with fail
      go_ret
      exact Ret.mk (congrArg Value.bool (by rw [← HR.out]; simp; omega)) (HW1.out _)
  · go_enter Try.func34, Try.ntmps34
    go_wp2_with fail
    go_ret
    exact Ret.mk (congrArg Value.bool (by rw [← HR.out]; simp; omega)) (HW1.out _)

theorem ckRange_ok {r : Rg} : ckRange r = 0 ↔ -999999999 ≤ r.lo ∧ r.lo ≤ r.hi ∧ r.hi ≤ 999999999 := by
  unfold ckRange farB
  by_cases a1 : (decide (999999999 < r.lo) || decide (r.lo < -999999999) || (decide (999999999 < r.hi) || decide (r.hi < -999999999))) = true
  · rw [if_pos a1]
    simp only [Bool.or_eq_true, decide_eq_true_eq] at a1
    constructor
    · intro h; simp at h
    · omega
  · rw [if_neg a1]
    simp only [Bool.or_eq_true, decide_eq_true_eq] at a1
    by_cases a2 : r.hi < r.lo
    · rw [if_pos a2]; constructor
      · intro h; simp at h
      · omega
    · rw [if_neg a2]; constructor
      · intro _; omega
      · intro _; rfl
theorem ckMass_ok {r : Rg} : ckMass r = 0 ↔ 0 ≤ r.lo ∧ r.lo ≤ r.hi ∧ r.hi ≤ 999999999 := by
  have h := @ckRange_ok r
  unfold ckMass
  by_cases a : ckRange r = 0
  · rw [if_pos a]
    have := h.1 a
    by_cases c : r.lo < 0
    · rw [if_pos c]; constructor
      · intro h; simp at h
      · omega
    · rw [if_neg c]; constructor
      · intro _; omega
      · intro _; rfl
  · rw [if_neg a]; constructor
    · intro h; exact absurd h a
    · intro hh; exact h.2 (by omega)
theorem ckTk_ok {b : Bk} {i : Nat} {t : Tk} (h : ckTk b i t = 0) : isName t.id = true ∧ (b.ts.take i).any (fun x => x.id.toList == t.id.toList) = false ∧ badPl b.st.length t.fr = false ∧ badPl b.st.length t.to = false ∧ t.fr ≠ t.to ∧ ckMass t.m = 0 := by
  unfold ckTk at h
  by_cases a1 : isName t.id = true
  · rw [if_neg (by simp [a1])] at h
    by_cases a2 : (b.ts.take i).any (fun x => x.id.toList == t.id.toList) = true
    · rw [if_pos a2] at h; simp at h
    · rw [if_neg a2] at h
      by_cases a3 : (badPl b.st.length t.fr || badPl b.st.length t.to) = true
      · rw [if_pos a3] at h; simp at h
      · rw [if_neg a3] at h
        by_cases a4 : t.fr = t.to
        · rw [if_pos a4] at h; simp at h
        · rw [if_neg a4] at h
          simp only [Bool.or_eq_true, not_or, Bool.not_eq_true] at a3
          exact ⟨a1, (Bool.not_eq_true _).mp a2, a3.1, a3.2, a4, h⟩
  · rw [if_pos (by simpa using a1)] at h; simp at h

def tinyB (b : Bk) : Bool := decide (ckBook b = 0 ∧ b.st.length ≤ 4 ∧ b.ts.length ≤ 4) && b.ts.all fun t => decide (t.m.hi - t.m.lo ≤ 4)
set_option maxHeartbeats 1000000 in
theorem tiny39 (v1 v2 : Value) (b : Bk) (w : World) (hv : BkR w w.heap.size v1 v2 b) :
    Calls Try.prog 39 #[.agg #[v1, v2]] w (Ret (.bool (tinyB b)) w) := by
  have W1 : ∀ vs, Below w.heap.size w (w.alloc (.cells vs 38)) := fun _ => (Below.refl _ _).alloc (Nat.le_refl _) _
  have HC := Lib.hid (fun vs => ckBook24 v1 v2 b _ (hv.later (W1 vs)))
  have HW1 := Lib.hid W1
  clear W1
  obtain ⟨⟨a1, c1, rfl, hl1, hA1⟩, ⟨a2, c2, rfl, hl2, hA2⟩, hids⟩ := hv
  clear hA1 hids
  have HA2 := Lib.hid hA2
  clear hA2
  have hm : ckBook b = 0 → ∀ i (h : i < b.ts.length), 0 ≤ (b.ts[i]).m.lo ∧ (b.ts[i]).m.lo ≤ (b.ts[i]).m.hi ∧ (b.ts[i]).m.hi ≤ 999999999 := fun h i hi => ckMass_ok.1 (ckTk_ok (((ckBook_ok b).1 h).2.2.2 i _ (List.getElem?_eq_getElem hi))).2.2.2.2.2
  obtain ⟨n, hn⟩ : ∃ n, ckBook b = n := ⟨_, rfl⟩
  rw [hn] at HC hm
  obtain ⟨R, hR⟩ : ∃ R, tinyB b = R := ⟨_, rfl⟩
  rw [hR]
  unfold tinyB at hR
  rw [hn] at hR
  clear hn
  have HR := Lib.hid hR
  clear hR
  have HM := Lib.hid hm
  clear hm
  by_cases h3 : n = 0
  · by_cases h1 : b.st.length ≤ 4
    · by_cases h2 : b.ts.length ≤ 4
      · have HR2 : Hid (b.ts.all (fun t => decide (t.m.hi - t.m.lo ≤ 4)) = R) := by rw [← HR.out, decide_eq_true (And.intro h3 (And.intro h1 h2))]; exact Lib.hid rfl
        have HM2 := Lib.hid (HM.out h3)
        clear HR HM
        have HB := Lib.hid (Box.new w #[.slice a1 b.st.length c1, .slice a2 b.ts.length c2] 38)
        go_enter Try.func39, Try.ntmps39
        go_wp2_with (go_at_call 24; refine (HC.out _).mono ?_; rintro e w3 ⟨rfl, hb3⟩; have d0 := (HB.out.later hb3).cell 0; have d1 := (HB.out.later hb3).cell 1; simp only [List.getElem?_cons_zero, List.getElem?_cons_succ] at d0 d1)
        go_loopw [3] (fun j wr => ∃ k : Nat, k ≤ b.ts.length ∧ j = .int .i64 k ∧ Below w.heap.size w wr ∧ Box wr w.heap.size 38 [.slice a1 b.st.length c1, .slice a2 b.ts.length c2] ∧ ((b.ts.drop k).all fun t => decide (t.m.hi - t.m.lo ≤ 4)) = R) (fun j _ => b.ts.length - (intOf j).toNat)
        case atStart => exact ⟨0, by omega, rfl, (HW1.out _).trans (hb3.mono (HW1.out _).size), HB.out.later hb3, HR2.out⟩
        case round =>
          clear HR2 hb3 d0 d1
          obtain ⟨k, hk, rfl, hbe, hx0, hrel⟩ := hrel
          have HL := Lib.hid hrel
          clear hrel
          have d0 := hx0.cell 0
          have d1 := hx0.cell 1
          have dz := hx0.lt
          simp only [List.getElem?_cons_zero, List.getElem?_cons_succ] at d0 d1
          by_cases hlt : k < b.ts.length
          · obtain ⟨bb, off, rfl, hbb, hcells⟩ := HA2.out (by omega)
            obtain ⟨e0, e1, e2, e3, e4⟩ := ((hcells k hlt).below hbe hbb).c5
            clear hcells HA2
            have hmm := HM2.out k hlt
            rw [List.drop_eq_getElem_cons hlt, List.all_cons] at HL
            generalize b.ts[k] = t at *
            obtain ⟨tid, tfr, tto, tlo, thi⟩ := t
            dsimp only at *
            obtain ⟨m1, m2, m3⟩ := hmm
            by_cases h9 : thi - tlo ≤ 4
            · go_wp2_with fail
              go_region
              go_wp2_with fail
              go_roundw
              case rel => exact ⟨k + 1, by omega, by go_num, hbe.drew, hx0.drew, by have h := HL.out; rw [decide_eq_true h9] at h; exact h⟩
              case measure => simp [intOf]; omega
            · go_wp2_with fail
              go_region
              go_wp2_with fail
              go_ret
              exact Ret.mk (by rw [← HL.out, decide_eq_false (show ¬ thi - tlo ≤ 4 by omega)]; rfl) hbe.drew
          · obtain rfl : b.ts.length = k := by omega
            go_wp2_with fail
            go_ret
            have h := HL.out
            rw [List.drop_length] at h
            exact Ret.mk (by rw [← h]; rfl) hbe
      · have HB := Lib.hid (Box.new w #[.slice a1 b.st.length c1, .slice a2 b.ts.length c2] 38)
        go_enter Try.func39, Try.ntmps39
        go_wp2_with (go_at_call 24; refine (HC.out _).mono ?_; rintro e w3 ⟨rfl, hb3⟩; have d0 := (HB.out.later hb3).cell 0; have d1 := (HB.out.later hb3).cell 1; simp only [List.getElem?_cons_zero, List.getElem?_cons_succ] at d0 d1)
        go_ret
        exact Ret.mk (congrArg Value.bool (by rw [← HR.out]; simp [h2])) ((HW1.out _).trans (hb3.mono (HW1.out _).size))
    · have HB := Lib.hid (Box.new w #[.slice a1 b.st.length c1, .slice a2 b.ts.length c2] 38)
      go_enter Try.func39, Try.ntmps39
      go_wp2_with (go_at_call 24; refine (HC.out _).mono ?_; rintro e w3 ⟨rfl, hb3⟩; have d0 := (HB.out.later hb3).cell 0; have d1 := (HB.out.later hb3).cell 1; simp only [List.getElem?_cons_zero, List.getElem?_cons_succ] at d0 d1)
      go_ret
      exact Ret.mk (congrArg Value.bool (by rw [← HR.out]; simp [h1])) ((HW1.out _).trans (hb3.mono (HW1.out _).size))
  · go_enter Try.func39, Try.ntmps39
    go_wp2_with (go_at_call 24; refine (HC.out _).mono ?_; rintro e w3 ⟨rfl, hb3⟩)
    go_ret
    exact Ret.mk (congrArg Value.bool (by rw [← HR.out]; simp [h3])) ((HW1.out _).trans (hb3.mono (HW1.out _).size))
end Go.Proofs.Ytlakcghdehdeiaa

/- Walks: the change of places by given masses; assignments. -/
namespace Go.Proofs.Ytlakcghdehdeiaa
open Go Go.Proofs Go.RowKit

/-- What masses bring into the places S. -/
def gain (S : List Int) : List Tk → List Int → Int
  | t :: ts, m :: ms => (if t.to ∈ S then m else 0) - (if t.fr ∈ S then m else 0) + gain S ts ms
  | _, _ => 0
theorem gain_drop (S : List Int) (ts : List Tk) (ms : List Int) (k : Nat) (h1 : k < ts.length) (h2 : k < ms.length) : gain S (ts.drop k) (ms.drop k) = (if ts[k].to ∈ S then ms[k] else 0) - (if ts[k].fr ∈ S then ms[k] else 0) + gain S (ts.drop (k + 1)) (ms.drop (k + 1)) := by
  rw [List.drop_eq_getElem_cons h1, List.drop_eq_getElem_cons h2]; rfl

set_option maxRecDepth 100000 in
set_option maxHeartbeats 1000000 in
theorem gain41 (v1 v2 u s : Value) (b : Bk) (ms S : List Int) (w : World) (hv : BkR w w.heap.size v1 v2 b) (hu : Sl encI 1 w w.heap.size u ms) (hs : Sl encI 1 w w.heap.size s S)
    (hl : b.ts.length ≤ ms.length) (hn : b.ts.length ≤ 200) (hm : ∀ i (h : i < ms.length), i < b.ts.length → 0 ≤ ms[i] ∧ ms[i] ≤ 999999999) :
    Calls Try.prog 41 #[.agg #[v1, v2], u, s] w (Ret (.int .i64 (gain S b.ts ms)) w) := by
  have W1 : ∀ vs, Below w.heap.size w (w.alloc (.cells vs 38)) := fun _ => (Below.refl _ _).alloc (Nat.le_refl _) _
  have HI := Lib.hid (fun (w' : World) (hb : Below w.heap.size w w') (p : Int) => in76 s S p w' (hs.later hb))
  have HW1 := Lib.hid W1
  clear W1
  obtain ⟨⟨a1, c1, rfl, hl1, hA1⟩, ⟨a2, c2, rfl, hl2, hA2⟩, hids⟩ := hv
  obtain ⟨a3, c3, rfl, hl3, hA3⟩ := hu
  clear hA1 hids
  have HA2 := Lib.hid hA2
  clear hA2
  have HA3 := Lib.hid hA3
  clear hA3
  have HM := Lib.hid hm
  clear hm
  obtain ⟨R, hR⟩ : ∃ R, gain S b.ts ms = R := ⟨_, rfl⟩
  rw [hR]
  have HR := Lib.hid hR
  clear hR
  have HB := Lib.hid (Box.new w #[.slice a1 b.st.length c1, .slice a2 b.ts.length c2] 38)
  obtain ⟨a4, c4, rfl, hl4, hA4⟩ := hs
  clear hA4
  go_enter Try.func41, Try.ntmps41
  go_wp2_with fail
  go_loopw [7, 8] (fun c j wr => ∃ (k : Nat) (z : Int), k ≤ b.ts.length ∧ c = .int .i64 z ∧ j = .int .i64 k ∧ -(k * 999999999) ≤ z ∧ z ≤ k * 999999999 ∧ Below w.heap.size w wr ∧ Box wr w.heap.size 38 [.slice a1 b.st.length c1, .slice a2 b.ts.length c2] ∧ z + gain S (b.ts.drop k) (ms.drop k) = R) (fun _ j _ => b.ts.length - (intOf j).toNat)
  case atStart => exact ⟨0, 0, by omega, rfl, rfl, by omega, by omega, HW1.out _, HB.out, by rw [← HR.out]; exact Int.zero_add _⟩
  case round =>
    clear HR
    obtain ⟨k, z, hk, rfl, rfl, hz1, hz2, hbe, hx0, hrel⟩ := hrel
    have HL := Lib.hid hrel
    clear hrel
    have d0 := hx0.cell 0
    have d1 := hx0.cell 1
    have dz := hx0.lt
    simp only [List.getElem?_cons_zero, List.getElem?_cons_succ] at d0 d1
    by_cases hlt : k < b.ts.length
    · obtain ⟨bb, off, rfl, hbb, hcells⟩ := HA2.out (by omega)
      obtain ⟨e0, e1, e2, e3, e4⟩ := ((hcells k hlt).below hbe hbb).c5
      obtain ⟨b3, o3, rfl, hb3, hcells3⟩ := HA3.out (by omega)
      have f0 := ((hcells3 k (by omega)).below hbe hb3).c1
      rw [Nat.mul_one] at f0
      obtain ⟨m1, m2⟩ := HM.out k (by omega) hlt
      have hd := Lib.hid (gain_drop S b.ts ms k hlt (by omega))
      have HC := Lib.hid (fun p => HI.out _ hbe p)
      clear hcells hcells3 HA2 HA3 HM
      generalize b.ts[k] = t at *
      generalize ms[k]'_ = m at *
      obtain ⟨tid, tfr, tto, tlo, thi⟩ := t
      dsimp only at *
      by_cases p : tto ∈ S
      all_goals by_cases q : tfr ∈ S
      all_goals
        have HD := Lib.hid (show gain S (b.ts.drop k) (ms.drop k) = _ from hd.out)
        simp only [p, q, if_true, if_false] at HD
        clear hd
        first | (have p' : decide (tto ∈ S) = true := decide_eq_true p; clear p) | (have p' : decide (tto ∈ S) = false := decide_eq_false p; clear p)
        first | (have q' : decide (tfr ∈ S) = true := decide_eq_true q; clear q) | (have q' : decide (tfr ∈ S) = false := decide_eq_false q; clear q)
        go_wp2_with (go_at_call 76; refine (HC.out _).mono ?_; rintro e w3 ⟨rfl, rfl⟩)
        go_roundw
        case rel => exact ⟨k + 1, _, by omega, rfl, by go_num, by omega, by omega, hbe, hx0, by rw [← HL.out, HD.out]; omega⟩
        case measure => simp [intOf]; omega
    · obtain rfl : b.ts.length = k := by omega
      go_wp2_with fail
      go_ret
      have h := HL.out
      rw [List.drop_length] at h
      exact Ret.mk (by rw [← h, show gain S [] (ms.drop b.ts.length) = 0 by unfold gain; rfl, Int.add_zero]; rfl) hbe
end Go.Proofs.Ytlakcghdehdeiaa

/- Walks: assignments, by the reference. -/
namespace Go.Proofs.Ytlakcghdehdeiaa
open Go Go.Proofs Go.RowKit

/-- Is the number within the range? -/
def Rg.has (r : Rg) (x : Int) : Prop := r.lo ≤ x ∧ x ≤ r.hi
instance (r : Rg) (x : Int) : Decidable (r.has x) := by unfold Rg.has; exact inferInstance
/-- Are the masses an assignment of the book? (As many masses as tickets.) -/
structure IsAsg (b : Bk) (ms : List Int) : Prop where
  len : ms.length = b.ts.length
  tk : ∀ i (h : i < b.ts.length), (b.ts[i]).m.has (ms[i]'(len ▸ h))
  pl : ∀ p (h : p < b.st.length), (b.st[p]).has (gain [(p : Int)] b.ts ms)

set_option maxRecDepth 100000 in
set_option maxHeartbeats 1000000 in
theorem holds28 (v1 v2 u : Value) (b : Bk) (ms : List Int) (w : World) (hv : BkR w w.heap.size v1 v2 b) (hu : Sl encI 1 w w.heap.size u ms) (hlen : ms.length = b.ts.length) (hok : ckBook b = 0) (R : Bool) (hR : R = true ↔ IsAsg b ms) :
    Calls Try.prog 28 #[.agg #[v1, v2], u] w (Ret (.bool R) w) := by
  have W1 : ∀ vs, Below w.heap.size w (w.alloc (.cells vs 38)) := fun _ => (Below.refl _ _).alloc (Nat.le_refl _) _
  have hb := (ckBook_ok b).1 hok
  have HG := Lib.hid (fun (w' : World) (hb : Below w.heap.size w w') => gain41 v1 v2 u (b := b) (ms := ms) (w := w') (hv := hv.later hb) (hu := hu.later hb))
  have HW1 := Lib.hid W1
  clear W1
  obtain ⟨⟨a1, c1, rfl, hl1, hA1⟩, ⟨a2, c2, rfl, hl2, hA2⟩, hids⟩ := hv
  obtain ⟨a3, c3, rfl, hl3, hA3⟩ := hu
  clear hids
  have HM : Hid (∀ i (h : i < b.ts.length), 0 ≤ (b.ts[i]).m.lo ∧ (b.ts[i]).m.lo ≤ (b.ts[i]).m.hi ∧ (b.ts[i]).m.hi ≤ 999999999) := Lib.hid (fun i hi => ckMass_ok.1 (ckTk_ok (hb.2.2.2 i _ (List.getElem?_eq_getElem hi))).2.2.2.2.2)
  have h128 := hb.2.2.1
  have h32 := hb.1
  clear hok hb
  have HA1 := Lib.hid hA1
  clear hA1
  have HA2 := Lib.hid hA2
  clear hA2
  have HA3 := Lib.hid hA3
  clear hA3
  have HR := Lib.hid hR
  clear hR
  have HLEN := Lib.hid hlen
  clear hlen
  have HB := Lib.hid (Box.new w #[.slice a1 b.st.length c1, .slice a2 b.ts.length c2] 38)
  go_enter Try.func28, Try.ntmps28
  go_wp2_with fail
  go_loopw [5] (fun j wr => ∃ k : Nat, k ≤ b.ts.length ∧ j = .int .i64 k ∧ Below w.heap.size w wr ∧ Box wr w.heap.size 38 [.slice a1 b.st.length c1, .slice a2 b.ts.length c2] ∧ ∀ i (h : i < k) (h' : i < b.ts.length) (h2 : i < ms.length), (b.ts[i]).m.has ms[i]) (fun j _ => b.ts.length - (intOf j).toNat)
  case atStart => exact ⟨0, by omega, rfl, HW1.out _, HB.out, fun i h => absurd h (by omega)⟩
  case round =>
    obtain ⟨k, hk, rfl, hbe, hx0, hrel⟩ := hrel
    have HL := Lib.hid hrel
    clear hrel
    have d0 := hx0.cell 0
    have d1 := hx0.cell 1
    have dz := hx0.lt
    simp only [List.getElem?_cons_zero, List.getElem?_cons_succ] at d0 d1
    by_cases hlt : k < b.ts.length
    · obtain ⟨bb, off, rfl, hbb, hcells⟩ := HA2.out (by omega)
      obtain ⟨e0, e1, e2, e3, e4⟩ := ((hcells k hlt).below hbe hbb).c5
      obtain ⟨b3, o3, rfl, hb3, hcells3⟩ := HA3.out (by rw [HLEN.out]; omega)
      have hk3 : k < ms.length := by rw [HLEN.out]; omega
      have f0 := ((hcells3 k hk3).below hbe hb3).c1
      rw [Nat.mul_one] at f0
      obtain ⟨m0, m1, m2⟩ := HM.out k hlt
      obtain ⟨y, hy⟩ : ∃ y, ms[k] = y := ⟨_, rfl⟩
      obtain ⟨t, ht⟩ : ∃ t, b.ts[k] = t := ⟨_, rfl⟩
      rw [hy] at f0
      rw [ht] at e0 e1 e2 e3 e4 m0 m1 m2
      obtain ⟨tid, tfr, tto, tlo, thi⟩ := t
      dsimp only at *
      have HY := Lib.hid hy
      clear hy
      have HT := Lib.hid ht
      clear ht
      clear hcells hcells3 HA3 HA2
      by_cases h1 : y < tlo
      · go_wp2_with fail
        go_quiet (fail)
        go_wp2_with fail
        go_ret
        have hF : R = false := Bool.eq_false_iff.2 fun hT => absurd ((HR.out.1 hT).tk k hlt) (by rw [HT.out, HY.out]; unfold Rg.has; dsimp only; omega)
        exact Ret.mk (by rw [hF]; rfl) (below_drewN hbe _)
      by_cases h2 : thi < y
      · go_wp2_with fail
        go_quiet (fail)
        go_wp2_with fail
        go_ret
        have hF : R = false := Bool.eq_false_iff.2 fun hT => absurd ((HR.out.1 hT).tk k hlt) (by rw [HT.out, HY.out]; unfold Rg.has; dsimp only; omega)
        exact Ret.mk (by rw [hF]; rfl) (below_drewN hbe _)
      · go_wp2_with fail
        go_quiet (fail)
        go_wp2_with fail
        go_roundw
        case rel => exact ⟨k + 1, by omega, by go_num, below_drewN hbe _, hx0.later (below_drewN (Below.refl _ _) _), fun i h h' h3 => by
          by_cases hik : i = k
          · subst hik; rw [HT.out, HY.out]; unfold Rg.has; dsimp only; omega
          · exact HL.out i (by omega) h' h3⟩
        case measure => simp [intOf]; omega
    · obtain rfl : b.ts.length = k := by omega
      clear HA2 HA3
      have HMS := Lib.hid (fun i (h : i < ms.length) (h' : i < b.ts.length) => (⟨Int.le_trans (HM.out i h').1 (HL.out i h' h' h).1, Int.le_trans (HL.out i h' h' h).2 (HM.out i h').2.2⟩ : 0 ≤ ms[i] ∧ ms[i] ≤ 999999999))
      go_wp2_with fail
      clear dz d0 d1
      go_loopw [6] (fun j w2 => ∃ k : Nat, k ≤ b.st.length ∧ j = .int .i64 k ∧ Below w.heap.size w w2 ∧ Box w2 w.heap.size 38 [.slice a1 b.st.length c1, .slice a2 b.ts.length c2] ∧ ∀ p (h : p < k) (h' : p < b.st.length), (b.st[p]).has (gain [(p : Int)] b.ts ms)) (fun j _ => b.st.length - (intOf j).toNat)
      case atStart => exact ⟨0, by omega, rfl, hbe, hx0, fun i h => absurd h (by omega)⟩
      case round =>
        clear hbe hx0
        obtain ⟨k, hk, rfl, hbe, hx0, hrel⟩ := hrel
        have HP := Lib.hid hrel
        clear hrel
        have d0 := hx0.cell 0
        have d1 := hx0.cell 1
        have dz := hx0.lt
        simp only [List.getElem?_cons_zero, List.getElem?_cons_succ] at d0 d1
        by_cases hlt : k < b.st.length
        · obtain ⟨bb, off, rfl, hbb, hcells⟩ := HA1.out (by omega)
          have hc := Lib.hid (hcells k hlt)
          obtain ⟨g, hg⟩ : ∃ g, gain [(k : Int)] b.ts ms = g := ⟨_, rfl⟩
          have HS := Lib.hid (Sl.lit (f := encI) (sz := 1) (fun _ => rfl) [(k : Int)] wr #[.int .i64 k] 3 1 rfl rfl (by simp))
          have HBA := Lib.hid (hbe.alloc hbe.size (.cells #[.int .i64 k] 3))
          have HXA := Lib.hid (hx0.alloc (.cells #[.int .i64 k] 3))
          have HC := Lib.hid (HG.out _ HBA.out _ [(k : Int)] HS.out (by rw [HLEN.out]; exact Nat.le_refl _) (by omega) HMS.out)
          rw [hg] at HC
          have HGE := Lib.hid hg
          clear hg
          obtain ⟨r, hr⟩ : ∃ r, b.st[k] = r := ⟨_, rfl⟩
          rw [hr] at hc
          obtain ⟨lo, hi⟩ := r
          have HRR := Lib.hid hr
          clear hr
          clear hcells
          by_cases h1 : g < lo
          · go_wp2_with (go_at_call 41; refine HC.out.mono ?_; rintro e w3 ⟨rfl, hb3⟩; have hbw := HBA.out.trans (hb3.mono HBA.out.size); have y0 := (HXA.out.later hb3).cell 0; obtain ⟨e0, e1⟩ := (hc.out.below hbw hbb).c2; simp only [List.getElem?_cons_zero] at y0)
            go_ret
            have hF : R = false := Bool.eq_false_iff.2 fun hT => absurd ((HR.out.1 hT).pl k hlt) (by rw [HRR.out, HGE.out]; unfold Rg.has; dsimp only; omega)
            exact Ret.mk (by rw [hF]; rfl) hbw
          by_cases h2 : hi < g
          · go_wp2_with (go_at_call 41; refine HC.out.mono ?_; rintro e w3 ⟨rfl, hb3⟩; have hbw := HBA.out.trans (hb3.mono HBA.out.size); have y0 := (HXA.out.later hb3).cell 0; obtain ⟨e0, e1⟩ := (hc.out.below hbw hbb).c2; simp only [List.getElem?_cons_zero] at y0)
            go_ret
            have hF : R = false := Bool.eq_false_iff.2 fun hT => absurd ((HR.out.1 hT).pl k hlt) (by rw [HRR.out, HGE.out]; unfold Rg.has; dsimp only; omega)
            exact Ret.mk (by rw [hF]; rfl) hbw
          · go_wp2_with (go_at_call 41; refine HC.out.mono ?_; rintro e w3 ⟨rfl, hb3⟩; have hbw := HBA.out.trans (hb3.mono HBA.out.size); have y0 := (HXA.out.later hb3).cell 0; obtain ⟨e0, e1⟩ := (hc.out.below hbw hbb).c2; simp only [List.getElem?_cons_zero] at y0)
            go_roundw
            case rel => exact ⟨k + 1, by omega, by go_num, hbw, HXA.out.later hb3, fun p h h' => by
              by_cases hpk : p = k
              · subst hpk; rw [HRR.out, HGE.out]; unfold Rg.has; dsimp only; omega
              · exact HP.out p (by omega) h'⟩
            case measure => simp [intOf]; omega
        · obtain rfl : b.st.length = k := by omega
          have hT : R = true := HR.out.2 ⟨HLEN.out, fun i h => HL.out i h h (by rw [HLEN.out]; exact h), fun p h => HP.out p h h⟩
          go_wp2_with fail
          go_ret
          exact Ret.mk (by rw [hT]; rfl) hbe
end Go.Proofs.Ytlakcghdehdeiaa
