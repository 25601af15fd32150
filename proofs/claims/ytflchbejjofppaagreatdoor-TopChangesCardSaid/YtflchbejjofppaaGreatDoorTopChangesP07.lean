/- Lemmas on the way to the law TopChanges (part 7): WE WF WI WJ WK WL WM WN WQ -/
import Derived.Test.YtflchbejjofppaaGreatDoorTopChangesP06
import Derived.StillTailTactics
import Derived.Test.YtflchbejjofppaaGreatDoorTopChangesP01
import Derived.Deep.RegionLaw
import Derived.Maps.Own
import Derived.Maps.OwnOps
import Derived.Maps.OwnSet
import Derived.Maps.Views
set_option linter.unusedVariables false
set_option linter.unusedSimpArgs false

/- Walks: equal ranges, net weights. -/
namespace Go.Proofs.YtflchbejjofppaaGreatDoor
open Go Go.Proofs Go.RowKit
def z : Rg := ⟨0, 0⟩
theorem ckRange_0 {r : Rg} (h : ckRange r = 0) : -999999999 ≤ r.lo ∧ r.lo ≤ r.hi ∧ r.hi ≤ 999999999 := by
  unfold ckRange farB at h
  by_cases h1 : 999999999 < r.lo
  · simp [h1] at h
  by_cases h2 : r.lo < -999999999
  · simp [h2] at h
  by_cases h3 : 999999999 < r.hi
  · simp [h3] at h
  by_cases h4 : r.hi < r.lo
  · simp [h4] at h
    split at h <;> simp at h
  omega
theorem ckMass_0 {r : Rg} (h : ckMass r = 0) : 0 ≤ r.lo ∧ r.lo ≤ r.hi ∧ r.hi ≤ 999999999 := by
  unfold ckMass at h
  split at h
  · rename_i h1
    have := ckRange_0 h1
    split at h <;> simp at h
    omega
  · exact absurd h ‹_›
theorem firstNZ_2 {a b : Int} : firstNZ [a, b] = 0 ↔ a = 0 ∧ b = 0 := by
  simp only [firstNZ]
  by_cases h : a = 0 <;> by_cases h2 : b = 0 <;> simp [h, h2]
def netE (g t : Rg) : Int := firstNZ [ckMass g, ckMass t]
def netR (g t : Rg) : Rg := ⟨max 0 (g.lo - t.hi), g.hi - t.lo⟩
def netF (g t : Rg) : Rg := if netE g t ≠ 0 ∨ g.hi < t.lo then z else netR g t
def netB (g t : Rg) : Int := if netE g t ≠ 0 then netE g t else if g.hi < t.lo then 15 else 0
set_option maxHeartbeats 400000 in
theorem net36 (g t : Rg) (w : World) : Calls Tryz.prog 25 #[.agg #[.int .i64 g.lo, .int .i64 g.hi], .agg #[.int .i64 t.lo, .int .i64 t.hi]] w
    (Ret (.tuple #[.agg #[.int .i64 (netF g t).lo, .int .i64 (netF g t).hi], .int .i64 (netB g t)]) w) := by
  generalize hRF : netF g t = RF
  generalize hRB : netB g t = RB
  have HRF := Lib.hid hRF
  clear hRF
  have HRB := Lib.hid hRB
  clear hRB
  go_enter Tryz.func25, Tryz.ntmps25
  go_wp2_with fail
  refine wp_region_head_later 4 (by kernel_rfl) (by kernel_rfl) ?_
  simp only [List.take_succ_cons, List.take_zero, List.drop_succ_cons, List.drop_zero]
  repeat go_big_quiet_step ((go_at_call 55; exact Calls.later (ckMass70 ⟨_, _⟩ _)))
  refine wpQuiet_nil ?_
  rintro w1 ⟨⟨_, hb1⟩, rfl⟩
  obtain ⟨c0, c1, c2, f0, f1, f2, z0, z1, z2⟩ := boxes3 (w := w) (by simp) hb1
  have hB : Below w.heap.size w w1 := (((Below.refl w.heap.size w).alloc (Nat.le_refl _) _).alloc (by simp) _ |>.alloc (by simp; omega) _).trans (hb1.mono (by simp; omega))
  have HB := Lib.hid hB
  clear hB hb1
  generalize hE : firstNZ [ckMass g, ckMass t] = E
  have hfirst := first63 (.slice (some ⟨w1.heap.size, 0, none⟩) 2 2) [ckMass g, ckMass t] _ (Sl.lit encI_len _ w1 #[.int .i64 (ckMass g), .int .i64 (ckMass t)] 30 2 rfl rfl (by simp))
  rw [hE] at hfirst
  have HF := Lib.hid hfirst
  clear hfirst
  have hz : E = 0 → 0 ≤ g.lo ∧ g.hi ≤ 999999999 ∧ g.lo ≤ g.hi ∧ 0 ≤ t.lo ∧ t.hi ≤ 999999999 ∧ t.lo ≤ t.hi := by
    rintro rfl
    have := firstNZ_2.1 hE
    have h1 := ckMass_0 this.1
    have h2 := ckMass_0 this.2
    omega
  have HE := Lib.hid (show netE g t = E from hE)
  clear hE
  by_cases h0 : E = 0
  · have hz := hz h0
    subst h0
    by_cases h1 : g.hi < t.lo
    · go_wp2_with (go_at_call 33; refine HF.out.mono ?_; rintro e w' ⟨rfl, rfl⟩)
      refine bodyPost_ret (v := .tuple #[.agg #[.int .i64 0, .int .i64 0], .int .i64 15]) (by simp [results, Tryz.results25, go_sem, *]) rfl ?_
      refine Ret.mk ?_ ?_
      · rw [← HRF.out, ← HRB.out]
        simp [netF, netB, HE.out, h1, z]
      · repeat (first | exact HB.out | exact Below.refl _ _ | refine Below.setCell ?_ (by first | (dsimp only; omega) | (simp; done) | (simp; omega)) _ | refine Below.alloc ?_ (by first | omega | (simp; done) | (simp; omega)) _ | refine Below.drew ?_)
    · go_wp2_with (go_at_call 33; refine HF.out.mono ?_; rintro e w' ⟨rfl, rfl⟩)
      all_goals
        refine bodyPost_ret (v := .tuple #[.agg #[.int .i64 (netR g t).lo, .int .i64 (netR g t).hi], .int .i64 0]) (by simp [results, Tryz.results25, go_sem, netR, *] <;> omega) rfl ?_
        refine Ret.mk ?_ ?_
        · rw [← HRF.out, ← HRB.out]
          have h1 : ¬ g.hi < t.lo := by omega
          simp [netF, netB, HE.out, h1]
        · repeat (first | exact HB.out | exact Below.refl _ _ | refine Below.setCell ?_ (by first | (dsimp only; omega) | (simp; done) | (simp; omega)) _ | refine Below.alloc ?_ (by first | omega | (simp; done) | (simp; omega)) _ | refine Below.drew ?_)
  · clear hz
    go_wp2_with (go_at_call 33; refine HF.out.mono ?_; rintro e w' ⟨rfl, rfl⟩)
    refine bodyPost_ret (v := .tuple #[.agg #[.int .i64 0, .int .i64 0], .int .i64 E]) (by simp [results, Tryz.results25, go_sem, *]) rfl ?_
    refine Ret.mk ?_ ?_
    · rw [← HRF.out, ← HRB.out]
      simp [netF, netB, HE.out, h0, z]
    · repeat (first | exact HB.out | exact Below.refl _ _ | refine Below.setCell ?_ (by first | (dsimp only; omega) | (simp; done) | (simp; omega)) _ | refine Below.alloc ?_ (by first | omega | (simp; done) | (simp; omega)) _ | refine Below.drew ?_)
end Go.Proofs.YtflchbejjofppaaGreatDoor
/- Walks: sums of masses, common masses. -/
namespace Go.Proofs.YtflchbejjofppaaGreatDoor
open Go Go.Proofs Go.RowKit
theorem take_snoc {α : Type} (l : List α) (k : Nat) (h : k < l.length) : l.take (k + 1) = l.take k ++ [l[k]] := by
  rw [List.take_succ_eq_append_getElem h]
end Go.Proofs.YtflchbejjofppaaGreatDoor
/- Walks: the drift of a scale. -/
namespace Go.Proofs.YtflchbejjofppaaGreatDoor
open Go Go.Proofs Go.RowKit
theorem Rg.enc_one (x : Rg) : ∀ u ∈ x.enc, u.oneCell' = true := by intro u hu; simp [Rg.enc] at hu; rcases hu with rfl | rfl <;> rfl
theorem take_snoc' {α : Type} (l : List α) (k : Nat) (x : α) (h : l[k]? = some x) : l.take (k + 1) = l.take k ++ [x] := by
  rw [List.take_add_one, h]; rfl
theorem Tryz.infoRg : (Tryz.prog.info? 34).map (fun i => (i.zero, i.size, i.bytes)) = some (some (.agg #[.int .i64 0, .int .i64 0]), 2, 16) := by kernel_rfl
end Go.Proofs.YtflchbejjofppaaGreatDoor
/- Walks: the drift of a scale, by the program. -/
namespace Go.Proofs.YtflchbejjofppaaGreatDoor
open Go Go.Proofs Go.RowKit
def RetSlE {α : Type} (f : α → List Value) (sz : Nat) (l : List α) (n : Int) (w : World) (e : Ending) (w' : World) : Prop := ∃ v, e = .returned (.tuple #[v, .int .i64 n]) ∧ Sl f sz w' w'.heap.size v l ∧ Below w.heap.size w w'
theorem RetSlE.fail {α : Type} {f : α → List Value} {sz : Nat} {n : Int} {w w' : World} (hb : Below w.heap.size w w') (v v' : Value) (hv : v = .slice none 0 0) (hn : v' = .int .i64 n) : RetSlE f sz [] n w (.returned (.tuple #[v, v'])) w' :=
  ⟨v, by rw [hn], by rw [hv]; exact Sl.nil f sz w' _ 0 none, hb⟩
theorem any_take_snoc {α : Type} (l : List α) (p : α → Bool) (k : Nat) (x : α) (h : l[k]? = some x) : (l.take (k + 1)).any p = ((l.take k).any p || p x) := by
  rw [take_snoc' l k x h]; simp
theorem any_of_get {α : Type} (l : List α) (p : α → Bool) (k : Nat) (x : α) (h : l[k]? = some x) (hp : p x = true) : l.any p = true := by
  rw [List.any_eq_true]; exact ⟨x, List.mem_of_getElem? h, hp⟩
end Go.Proofs.YtflchbejjofppaaGreatDoor
/- Walks: lists of numbers. -/
namespace Go.Proofs.YtflchbejjofppaaGreatDoor
open Go Go.Proofs Go.RowKit
theorem decide_mem_drop (l : List Int) (x : Int) (k : Nat) (h : k < l.length) : decide (x ∈ l.drop k) = (decide (l[k] = x) || decide (x ∈ l.drop (k + 1))) := by
  rw [List.drop_eq_getElem_cons h, Bool.eq_iff_iff]
  simp only [decide_eq_true_eq, Bool.or_eq_true, List.mem_cons]
  exact or_congr eq_comm Iff.rfl
set_option maxHeartbeats 400000 in
theorem in76 (v : Value) (l : List Int) (x : Int) (w : World) (hv : Sl encI 1 w w.heap.size v l) : Calls Tryz.prog 10 #[v, .int .i64 x] w fun e w' => e = .returned (.bool (decide (x ∈ l))) ∧ w = w' := by
  obtain ⟨a, c, rfl, hlen, hA⟩ := hv
  have HA := Lib.hid hA
  clear hA
  obtain ⟨R, hR⟩ : ∃ R, decide (x ∈ l) = R := ⟨_, rfl⟩
  rw [hR]
  have HR0 := Lib.hid hR
  clear hR
  go_enter Tryz.func10, Tryz.ntmps10
  go_wp2_with fail
  go_loop [5] (fun i => ∃ k : Nat, k ≤ l.length ∧ i = .int .i64 k ∧ decide (x ∈ l.drop k) = R) (fun i => l.length - (intOf i).toNat)
  case atStart => exact ⟨0, by omega, rfl, HR0.out⟩
  case round =>
    obtain ⟨k, hk, rfl, hrel⟩ := hrel
    have HR := Lib.hid hrel
    clear hrel
    clear HR0
    by_cases hlt : k < l.length
    · obtain ⟨b, off, rfl, hbb, hcells⟩ := HA.out (by omega)
      have hd := Lib.hid (decide_mem_drop l x k hlt)
      have c0 := (hcells k hlt).c1
      rw [Nat.mul_one] at c0
      clear hcells HA
      generalize l[k] = y at *
      by_cases h2 : y = x
      · go_wp2_with fail
        go_ret
        exact ⟨ret_bool (by rw [← HR.out, hd.out]; simp [h2]), rfl⟩
      · go_wp2_with fail
        go_round
        case rel => exact ⟨k + 1, by omega, by go_num, by rw [← HR.out, hd.out]; simp [h2]⟩
        case measure => simp [intOf]; omega
    · obtain rfl : l.length = k := by omega
      go_wp2_with fail
      go_ret
      exact ⟨ret_bool (by rw [← HR.out]; simp), rfl⟩
def outB (n : Int) (i : Int) : Bool := decide (i < 0) || decide (n ≤ i)
def ckNums (l : List Int) (n : Int) : Int := if l.any (outB n) then 10 else if l.Nodup then 0 else 9
theorem ckNums_10 {l : List Int} {n : Int} (h : l.any (outB n) = true) : ckNums l n = 10 := by unfold ckNums; rw [if_pos h]
theorem ckNums_9 {l : List Int} {n : Int} (h : l.any (outB n) = false) (h2 : ¬ l.Nodup) : ckNums l n = 9 := by unfold ckNums; rw [if_neg (by simp [h]), if_neg h2]
theorem ckNums_0 {l : List Int} {n : Int} (h : l.any (outB n) = false) (h2 : l.Nodup) : ckNums l n = 0 := by unfold ckNums; rw [if_neg (by simp [h]), if_pos h2]
theorem nodup_snoc (l : List Int) (k : Nat) (h : k < l.length) : (l.take (k + 1)).Nodup ↔ (l.take k).Nodup ∧ l[k] ∉ l.take k := by
  rw [List.take_succ_eq_append_getElem h, List.nodup_append]
  simp
  intro _
  constructor
  · intro h1 h2; exact h1 _ h2 rfl
  · intro h1 a ha e; subst e; exact h1 ha
theorem dup_at {l : List Int} {i k : Nat} (hi : i < l.length) (hk : k < i) (h : l[i] = l[k]'(by omega)) : ¬ l.Nodup := by
  intro hn
  exact (List.pairwise_iff_getElem.1 hn k i (by omega) hi hk) h.symm
set_option maxHeartbeats 1000000 in
theorem ckNums30 (v : Value) (l : List Int) (n : Int) (w : World) (hv : Sl encI 1 w w.heap.size v l) : Calls Tryz.prog 6 #[v, .int .i64 n] w (Ret (.int .i64 (ckNums l n)) w) := by
  obtain ⟨a, c, rfl, hlen, hA⟩ := hv
  have HA := Lib.hid hA
  clear hA
  obtain ⟨R, hR⟩ : ∃ R, ckNums l n = R := ⟨_, rfl⟩
  rw [hR]
  have HR := Lib.hid hR
  clear hR
  go_enter Tryz.func6, Tryz.ntmps6
  go_wp2_with fail
  go_loop [5] (fun i => ∃ k : Nat, k ≤ l.length ∧ i = .int .i64 k ∧ (l.take k).any (outB n) = false) (fun i => l.length - (intOf i).toNat)
  case atStart => exact ⟨0, by omega, rfl, by simp⟩
  case round =>
    obtain ⟨k, hk, rfl, hrel⟩ := hrel
    have HN := Lib.hid hrel
    clear hrel
    by_cases hlt : k < l.length
    · obtain ⟨b, off, rfl, hbb, hcells⟩ := HA.out (by omega)
      have hd := Lib.hid (any_take_snoc l (outB n) k _ (List.getElem?_eq_getElem hlt))
      have hm := Lib.hid (List.getElem_mem hlt)
      have c0 := (hcells k hlt).c1
      rw [Nat.mul_one] at c0
      clear hcells HA
      generalize l[k] = y at *
      by_cases h2 : y < 0
      · go_wp2_with fail
        go_ret
        exact Ret.mk (by rw [← HR.out, ckNums_10 (List.any_eq_true.2 ⟨y, hm.out, by simp [outB, h2]⟩)]; rfl) (Below.refl _ _)
      · by_cases h3 : n ≤ y
        · go_wp2_with fail
          go_ret
          exact Ret.mk (by rw [← HR.out, ckNums_10 (List.any_eq_true.2 ⟨y, hm.out, by simp [outB, h3]⟩)]; rfl) (Below.refl _ _)
        · have e := Lib.hid (show outB n y = false by simp [outB]; omega)
          go_wp2_with fail
          go_round
          case rel => exact ⟨k + 1, by omega, by go_num, by rw [hd.out, HN.out, e.out]; rfl⟩
          case measure => simp [intOf]; omega
    · obtain rfl : l.length = k := by omega
      have HO : Hid (l.any (outB n) = false) := by have := HN.out; rw [List.take_length] at this; exact this
      clear HN
      go_wp2_with fail
      go_loopw [6] (fun i wr => ∃ k : Nat, k ≤ l.length ∧ i = .int .i64 k ∧ Below w.heap.size w wr ∧ (l.take k).Nodup) (fun i _ => l.length - (intOf i).toNat)
      case atStart => exact ⟨0, by omega, rfl, Below.refl _ _, by simp⟩
      case round =>
        obtain ⟨i, hi, rfl, hbe, hnd⟩ := hrel
        have HN := Lib.hid hnd
        clear hnd
        by_cases hlt : i < l.length
        · obtain ⟨b, off, rfl, hbb, hcells⟩ := HA.out (by omega)
          have HC := Lib.hid hcells
          clear hcells
          clear HA
          go_wp2_with fail
          obtain ⟨wo, hwo⟩ : ∃ wo : World, wo = wr := ⟨_, rfl⟩
          subst hwo
          go_loopw [7] (fun j wr => ∃ k : Nat, k ≤ i ∧ j = .int .i64 k ∧ Below w.heap.size w wr ∧ ∀ m (_ : m < k) (h2 : m < l.length), l[i] ≠ l[m]) (fun j _ => i - (intOf j).toNat)
          case atStart => exact ⟨0, by omega, rfl, hbe, fun m h _ => by omega⟩
          case round =>
            obtain ⟨k, hk, rfl, hbe2, hne⟩ := hrel
            have HE := Lib.hid hne
            clear hne
            by_cases hki : k < i
            · have c0 := ((HC.out i hlt).below hbe2 hbb).c1
              have c1 := ((HC.out k (by omega)).below hbe2 hbb).c1
              rw [Nat.mul_one] at c0 c1
              have hz := hbe2.size
              have hz1 : b < wr.heap.size := by omega
              have hkl : k < l.length := by omega
              have hdup := Lib.hid (@dup_at l i k hlt hki)
              have hst := Lib.hid (show ∀ m (_ : m < k + 1) (h2 : m < l.length), l[i] ≠ l[k] → l[i] ≠ l[m] from fun m h h2 hn => by
                have hmk := h
                by_cases hm : m = k
                · subst hm; exact hn
                · exact HE.out m (by omega) h2)
              generalize hx : l[i] = x at *
              generalize hy : l[k] = y at *
              by_cases h2 : x = y
              · go_wp2_with fail
                refine wp_region_later (by kernel_rfl) (by kernel_rfl) ?_
                repeat go_big_quiet_step (fail)
                refine wpQuiet_nil ?_
                rintro w2 ⟨⟨_, hb2⟩, rfl⟩
                go_wp2_with fail
                go_ret
                exact Ret.mk (by rw [← HR.out, ckNums_9 HO.out (hdup.out h2)]; rfl) (hbe2.trans (hb2.mono hbe2.size))
              · have h2' := beq_eq_false_iff_ne.2 h2
                go_wp2_with fail
                refine wp_region_later (by kernel_rfl) (by kernel_rfl) ?_
                repeat go_big_quiet_step (fail)
                refine wpQuiet_nil ?_
                rintro w2 ⟨⟨_, hb2⟩, rfl⟩
                go_wp2_with fail
                go_roundw
                case rel => exact ⟨k + 1, by omega, by go_num, hbe2.trans (hb2.mono hbe2.size), fun m h h3 => hst.out m h h3 h2⟩
                case measure => simp [intOf]; omega
            · obtain rfl : k = i := by omega
              go_wp2_with fail
              go_roundw
              case rel => exact ⟨k + 1, by omega, by go_num, hbe2, (nodup_snoc l k hlt).2 ⟨HN.out, fun hm => by
                obtain ⟨m, hm1, hm2⟩ := List.mem_take_iff_getElem.1 hm
                exact HE.out m (by omega) (by omega) hm2.symm⟩⟩
              case measure => simp [intOf]; omega
        · obtain rfl : l.length = i := by omega
          go_wp2_with fail
          go_ret
          exact Ret.mk (by rw [← HR.out, ckNums_0 HO.out (by have := HN.out; rwa [List.take_length] at this)]; rfl) hbe
end Go.Proofs.YtflchbejjofppaaGreatDoor
/- Walks: names. -/
namespace Go.Proofs.YtflchbejjofppaaGreatDoor
open Go Go.Proofs Go.RowKit
def okC (n : Int) : Bool := (decide (97 ≤ n) && decide (n ≤ 122)) || (decide (65 ≤ n) && decide (n ≤ 90)) || (decide (48 ≤ n) && decide (n ≤ 57)) || n == 45 || n == 95 || n == 46
def okB (c : UInt8) : Bool := okC (c.toNat : Int)
def isName (s : ByteArray) : Bool := decide (1 ≤ s.size) && decide (s.size ≤ 24) && s.data.toList.all okB
theorem name_all_drop (s : ByteArray) (k : Nat) (h : k < s.size) : (s.data.toList.drop k).all okB = (okB s[k] && (s.data.toList.drop (k + 1)).all okB) := by
  rw [List.drop_eq_getElem_cons (by simpa using h)]
  rfl
set_option maxHeartbeats 1000000 in
theorem isName89 (s : ByteArray) (w : World) (hs : s.size ≤ 9223372036854775807) : Calls Tryz.prog 57 #[.string s] w fun e w' => e = .returned (.bool (isName s)) ∧ w = w' := by
  obtain ⟨R, hR⟩ : ∃ R, isName s = R := ⟨_, rfl⟩
  rw [hR]
  have HR := Lib.hid hR
  clear hR
  go_enter Tryz.func57, Tryz.ntmps57
  by_cases h0 : s.size < 1
  · go_wp2_with fail
    go_ret
    exact ⟨ret_bool (by rw [← HR.out]; unfold isName; simp; omega), rfl⟩
  by_cases h1 : 24 < s.size
  · go_wp2_with fail
    go_ret
    exact ⟨ret_bool (by rw [← HR.out]; unfold isName; simp; omega), rfl⟩
  go_wp2_with fail
  have HR1 : Hid (s.data.toList.all okB = R) := by
    have := HR.out
    unfold isName at this
    rw [decide_eq_true (by omega), decide_eq_true (by omega)] at this
    exact this
  go_loop [3] (fun i => ∃ k : Nat, k ≤ s.size ∧ i = .int .i64 k ∧ (s.data.toList.drop k).all okB = R) (fun i => s.size - (intOf i).toNat)
  case atStart => exact ⟨0, by omega, rfl, HR1.out⟩
  case round =>
    obtain ⟨k, hk, rfl, hrel⟩ := hrel
    clear HR1
    have HL := Lib.hid hrel
    clear hrel
    by_cases hlt : k < s.size
    · have hd := Lib.hid (name_all_drop s k hlt)
      have hc : s[k].toNat < 256 := s[k].toNat_lt
      by_cases hok : okB s[k] = true
      · have hok' : (97 ≤ (s[k].toNat : Int) ∧ (s[k].toNat : Int) ≤ 122) ∨ (65 ≤ (s[k].toNat : Int) ∧ (s[k].toNat : Int) ≤ 90) ∨ (48 ≤ (s[k].toNat : Int) ∧ (s[k].toNat : Int) ≤ 57) ∨ (s[k].toNat : Int) = 45 ∨ (s[k].toNat : Int) = 95 ∨ (s[k].toNat : Int) = 46 := by
          simp only [okB, okC, Bool.or_eq_true, Bool.and_eq_true, decide_eq_true_eq, beq_iff_eq] at hok; omega
        have HN : Hid ((s.data.toList.drop (k + 1)).all okB = R) := by have h := HL.out; rw [hd.out, hok, Bool.true_and] at h; exact h
        clear hok
        rcases hok' with ⟨h2, h3⟩ | ⟨h2, h3⟩ | ⟨h2, h3⟩ | h2 | h2 | h2
        · go_wp2_with fail
          go_round
          case rel => exact ⟨k + 1, by omega, by go_num, HN.out⟩
          case measure => simp [intOf]; omega
        · go_wp2_with fail
          go_round
          case rel => exact ⟨k + 1, by omega, by go_num, HN.out⟩
          case measure => simp [intOf]; omega
        · go_wp2_with fail
          go_round
          case rel => exact ⟨k + 1, by omega, by go_num, HN.out⟩
          case measure => simp [intOf]; omega
        · go_wp2_with fail
          go_round
          case rel => exact ⟨k + 1, by omega, by go_num, HN.out⟩
          case measure => simp [intOf]; omega
        · go_wp2_with fail
          go_round
          case rel => exact ⟨k + 1, by omega, by go_num, HN.out⟩
          case measure => simp [intOf]; omega
        · go_wp2_with fail
          go_round
          case rel => exact ⟨k + 1, by omega, by go_num, HN.out⟩
          case measure => simp [intOf]; omega
      · have hok' : (123 ≤ (s[k].toNat : Int)) ∨ (91 ≤ (s[k].toNat : Int) ∧ (s[k].toNat : Int) ≤ 94) ∨ (58 ≤ (s[k].toNat : Int) ∧ (s[k].toNat : Int) ≤ 64) ∨ (47 ≤ (s[k].toNat : Int) ∧ (s[k].toNat : Int) ≤ 47) ∨ (96 ≤ (s[k].toNat : Int) ∧ (s[k].toNat : Int) ≤ 96) ∨ ((s[k].toNat : Int) ≤ 44) := by
          simp only [okB, okC, Bool.or_eq_true, Bool.and_eq_true, decide_eq_true_eq, beq_iff_eq] at hok; omega
        have hok := (Bool.not_eq_true _).mp hok
        have HOK := Lib.hid hok
        clear hok
        have e1 : ((s[k].toNat : Int) == 45) = false := beq_eq_false_iff_ne.2 (by omega)
        have e2 : ((s[k].toNat : Int) == 95) = false := beq_eq_false_iff_ne.2 (by omega)
        have e3 : ((s[k].toNat : Int) == 46) = false := beq_eq_false_iff_ne.2 (by omega)
        have HF : Hid (false = R) := by have h := HL.out; rw [hd.out, HOK.out, Bool.false_and] at h; exact h
        rcases hok' with h2 | ⟨h2, h3⟩ | ⟨h2, h3⟩ | ⟨h2, h3⟩ | ⟨h2, h3⟩ | h2
        all_goals go_wp2_with fail
        all_goals first | (go_ret; exact ⟨ret_bool HF.out, rfl⟩) | (exfalso; simp only [Bool.not_eq_false', decide_eq_true_eq, Bool.not_eq_eq_eq_not, Bool.not_false] at *; omega)
    · obtain rfl : s.size = k := by omega
      go_wp2_with fail
      go_ret
      exact ⟨ret_bool (by rw [← HL.out, List.drop_of_length_le (by simp)]; rfl), rfl⟩
end Go.Proofs.YtflchbejjofppaaGreatDoor
/- Walks: names, by the program. -/
namespace Go.Proofs.YtflchbejjofppaaGreatDoor
open Go Go.Proofs Go.RowKit
theorem below_iter (w : World) (s : ByteArray) (p : Nat) : Below w.heap.size w (w.iter s p) := (Below.refl _ _).alloc (Nat.le_refl _) _
set_option maxHeartbeats 1000000 in
theorem isName69 (s : ByteArray) (w : World) (hs : s.size ≤ 9223372036854775807) : Calls Tryz.prog 59 #[.string s] w (Ret (.bool (isName s)) w) := by
  obtain ⟨R, hR⟩ : ∃ R, isName s = R := ⟨_, rfl⟩
  rw [hR]
  have HR := Lib.hid hR
  clear hR
  go_enter Tryz.func59, Tryz.ntmps59
  go_wp2_with fail
  go_loopw [4] (fun _ wr => ∃ k : Nat, k ≤ s.size ∧ wr = w.iter s k ∧ s.data.toList.all okB = (s.data.toList.drop k).all okB) (fun _ wr => s.size - wr.iterPos w.heap.size)
  case atStart => exact ⟨0, by omega, rfl, rfl⟩
  case round =>
    obtain ⟨k, hk, rfl, hrel⟩ := hrel
    have HL := Lib.hid hrel
    clear hrel
    by_cases hlt : k < s.size
    · have hd := Lib.hid (name_all_drop s k hlt)
      by_cases hok : okB s[k] = true
      · have HN : Hid (s.data.toList.all okB = (s.data.toList.drop (k + 1)).all okB) := by have h := HL.out; rw [hd.out, hok, Bool.true_and] at h; exact h
        have hok' : (97 ≤ (s[k].toNat : Int) ∧ (s[k].toNat : Int) ≤ 122) ∨ (65 ≤ (s[k].toNat : Int) ∧ (s[k].toNat : Int) ≤ 90) ∨ (48 ≤ (s[k].toNat : Int) ∧ (s[k].toNat : Int) ≤ 57) ∨ (s[k].toNat : Int) = 45 ∨ (s[k].toNat : Int) = 95 ∨ (s[k].toNat : Int) = 46 := by
          simp only [okB, okC, Bool.or_eq_true, Bool.and_eq_true, decide_eq_true_eq, beq_iff_eq] at hok; omega
        clear hok
        have hnx := fun ty => run_next_ascii (P := Tryz.prog) w s k ty hlt (by omega)
        generalize (s[k].toNat : Int) = c at *
        rcases hok' with ⟨h2, h3⟩ | ⟨h2, h3⟩ | ⟨h2, h3⟩ | h2 | h2 | h2
        all_goals go_wp2_with fail
        all_goals go_roundw
        all_goals first | exact ⟨k + 1, by omega, rfl, HN.out⟩ | (simp only [World.iterPos_iter]; omega)
      · have HF : Hid (s.data.toList.all okB = false) := by have h := HL.out; rw [hd.out, (Bool.not_eq_true _).mp hok, Bool.false_and] at h; exact h
        have hbad : ∃ (c : Int) (p : Nat), (123 ≤ c ∨ (91 ≤ c ∧ c ≤ 94) ∨ (58 ≤ c ∧ c ≤ 64) ∨ c = 47 ∨ c = 96 ∨ c ≤ 44) ∧ ∀ ty, (Instr.next (.pointer (some ⟨w.heap.size, 0, none⟩)) true ty).run Tryz.prog (w.iter s k) = .ok (.tuple #[.bool true, .int .i64 k, .int .i32 c]) (w.iter s p) := by
          by_cases ha : s[k].toNat < 128
          · refine ⟨(s[k].toNat : Int), k + 1, ?_, fun ty => run_next_ascii (P := Tryz.prog) w s k ty hlt ha⟩
            simp only [okB, okC, Bool.or_eq_true, Bool.and_eq_true, decide_eq_true_eq, beq_iff_eq] at hok
            omega
          · exact ⟨_, _, .inl (by have := (decode_high s k hlt (by omega)).1; omega), fun ty => run_next_any (P := Tryz.prog) w s k ty hlt⟩
        clear hok
        obtain ⟨c, p, hc, hnx⟩ := hbad
        have HRF : Hid (R = false) := by have h := HR.out; unfold isName at h; rw [HF.out, Bool.and_false] at h; exact h.symm
        rcases hc with h2 | ⟨h2, h3⟩ | ⟨h2, h3⟩ | h2 | h2 | h2
        all_goals go_wp2_with fail
        all_goals first | (go_ret; exact Ret.mk (congrArg Value.bool HRF.out.symm) (below_iter _ _ _)) | (exfalso; simp only [Bool.not_eq_false', decide_eq_true_eq, bne_eq_false_iff_eq] at *; omega)
    · obtain rfl : s.size = k := by omega
      have HA : Hid (s.data.toList.all okB = true) := by have h := HL.out; rw [List.drop_of_length_le (by simp)] at h; exact h
      have hnx := fun ty => run_next_end (P := Tryz.prog) w s s.size ty hlt
      go_wp2_with fail
      all_goals
        go_ret
        rw [← HR.out]
        refine Ret.mk (congrArg Value.bool ?_) (below_iter _ _ _)
        unfold isName
        rw [HA.out, Bool.and_true, Bool.eq_iff_iff]
        simp only [Bool.and_eq_true, decide_eq_true_eq, Bool.false_eq_true, false_iff]
        omega
end Go.Proofs.YtflchbejjofppaaGreatDoor
/- Books: how they are read; the errors of a book, by the reference. -/
namespace Go.Proofs.YtflchbejjofppaaGreatDoor
open Go Go.Proofs Go.RowKit
structure Tk where
  id : ByteArray
  fr : Int
  to : Int
  m : Rg
def Tk.enc (t : Tk) : List Value := [.string t.id, .int .i64 t.fr, .int .i64 t.to, .int .i64 t.m.lo, .int .i64 t.m.hi]
theorem Tk.enc_len (t : Tk) : t.enc.length = 5 := rfl
structure Bk where
  st : List Rg
  ts : List Tk
structure BkR (w : World) (B : Nat) (v1 v2 : Value) (b : Bk) : Prop where
  st : Sl Rg.enc 2 w B v1 b.st
  ts : Sl Tk.enc 5 w B v2 b.ts
  ids : ∀ t ∈ b.ts, t.id.size ≤ 9223372036854775807
theorem BkR.later {w w' : World} {v1 v2 : Value} {b : Bk} (h : BkR w w.heap.size v1 v2 b) (hb : Below w.heap.size w w') : BkR w' w'.heap.size v1 v2 b := ⟨h.st.later hb, h.ts.later hb, h.ids⟩
def badPl (n : Nat) (p : Int) : Bool := decide (p < -1) || decide ((n : Int) ≤ p)
def ckTk (b : Bk) (i : Nat) (t : Tk) : Int :=
  if isName t.id = false then 8 else if (b.ts.take i).any (fun x => x.id.toList == t.id.toList) then 9 else if badPl b.st.length t.fr || badPl b.st.length t.to then 10 else if t.fr = t.to then 1 else ckMass t.m
set_option maxHeartbeats 1000000 in
theorem ckTk67 (v1 v2 : Value) (b : Bk) (i : Nat) (t : Tk) (w : World) (hv : BkR w w.heap.size v1 v2 b) (hi : b.ts[i]? = some t) :
    Calls Tryz.prog 29 #[.agg #[v1, v2], .int .i64 i] w (Ret (.int .i64 (ckTk b i t)) w) := by
  obtain ⟨⟨a1, c1, rfl, hl1, hA1⟩, ⟨a2, c2, rfl, hl2, hA2⟩, hids⟩ := hv
  obtain ⟨hil, hit⟩ := List.getElem?_eq_some_iff.1 hi
  have hsz := hids t (List.mem_of_getElem? hi)
  obtain ⟨bb, off, rfl, hbb, hcells⟩ := hA2 (by omega)
  obtain ⟨k0, k1, k2, k3, k4⟩ := (hcells i hil).c5
  rw [hit] at k0 k1 k2 k3 k4
  have HC := Lib.hid hcells
  clear hcells
  obtain ⟨R, hR⟩ : ∃ R, ckTk b i t = R := ⟨_, rfl⟩
  rw [hR]
  have HR := Lib.hid hR
  clear hR
  clear hA1 hA2 hids hit hi
  have hN := isName89 t.id
  obtain ⟨x, hx⟩ : ∃ x, isName t.id = x := ⟨_, rfl⟩
  rw [hx] at hN
  have HX := Lib.hid hx
  clear hx
  have HN := Lib.hid hN
  clear hN
  obtain ⟨tid, tfr, tto, tlo, thi⟩ := t
  dsimp only at *
  go_enter Tryz.func29, Tryz.ntmps29
  cases x
  · go_wp2_with (go_at_call 57; refine (HN.out _ hsz).mono ?_; rintro e w' ⟨rfl, rfl⟩)
    go_ret
    refine Ret.mk (by rw [← HR.out]; unfold ckTk; rw [if_pos HX.out]; rfl) ?_
    repeat (first | exact Below.refl _ _ | exact Below.refl _ _ | refine Below.setCell ?_ (by first | (dsimp only; omega) | (simp; done) | (simp; omega)) _ | refine Below.alloc ?_ (by first | omega | (simp; done) | (simp; omega)) _ | refine Below.drew ?_)
  go_wp2_with (go_at_call 57; refine (HN.out _ hsz).mono ?_; rintro e w' ⟨rfl, rfl⟩)
  have W2 : Below w.heap.size w ((w.alloc (.cells #[.slice a1 b.st.length c1, .slice (some ⟨bb, off, none⟩) b.ts.length c2] 25)).alloc (.cells #[.string tid, .int .i64 tfr, .int .i64 tto, .int .i64 tlo, .int .i64 thi] 42)) := ((Below.refl _ _).alloc (Nat.le_refl _) _).alloc (by simp) _
  have HW2 := Lib.hid W2
  clear W2
  go_loopw [6] (fun j wr => ∃ k : Nat, k ≤ i ∧ j = .int .i64 k ∧ Below w.heap.size w wr ∧ Box wr w.heap.size 25 [.slice a1 b.st.length c1, .slice (some ⟨bb, off, none⟩) b.ts.length c2] ∧
      Box wr (w.heap.size + 1) 42 [.string tid, .int .i64 tfr, .int .i64 tto, .int .i64 tlo, .int .i64 thi] ∧ (b.ts.take k).any (fun x => x.id.toList == tid.toList) = false) (fun j _ => i - (intOf j).toNat)
  case atStart =>
    refine ⟨0, by omega, rfl, HW2.out, (Box.newAt _ _ _ rfl).alloc _, Box.newAt _ _ _ (by simp), by simp⟩
  case round =>
    obtain ⟨k, hk, rfl, hbe, hx0, hx1, hany⟩ := hrel
    have HY := Lib.hid hany
    clear hany
    by_cases hlt : k < i
    · have hkl : k < b.ts.length := by omega
      obtain ⟨c0, -, -, -, -⟩ := ((HC.out k hkl).below hbe hbb).c5
      have hz := hbe.size
      have hbz : bb < wr.heap.size := by omega
      have d0 := hx0.cell 0
      have d1 := hx0.cell 1
      have dz := hx0.lt
      have e0 := hx1.cell 0
      have ez := hx1.lt
      simp only [List.getElem?_cons_zero, List.getElem?_cons_succ] at d0 d1 e0
      have hst := any_take_snoc b.ts (fun x => x.id.toList == tid.toList) k _ (List.getElem?_eq_getElem hkl)
      rw [HY.out, Bool.false_or] at hst
      have hany2 := fun (h : (b.ts[k].id.toList == tid.toList) = true) => any_of_get (b.ts.take i) (fun x => x.id.toList == tid.toList) k b.ts[k] (by rw [List.getElem?_take, if_pos hlt]; exact List.getElem?_eq_getElem hkl) h
      have HST := Lib.hid hst
      clear hst
      have HA2 := Lib.hid hany2
      clear hany2
      generalize b.ts[k] = t' at *
      obtain ⟨y, hy⟩ : ∃ y, (t'.id.toList == tid.toList) = y := ⟨_, rfl⟩
      rw [hy] at HST HA2
      cases y
      · go_wp2_with fail
        refine wp_region_later (by kernel_rfl) (by kernel_rfl) ?_
        repeat go_big_quiet_step (fail)
        refine wpQuiet_nil ?_
        rintro w2 ⟨⟨_, hb2⟩, rfl⟩
        go_wp2_with fail
        go_roundw
        case rel => exact ⟨k + 1, by omega, by go_num, hbe.trans (hb2.mono hbe.size), hx0.later hb2, hx1.later hb2, HST.out⟩
        case measure => simp [intOf]; omega
      · go_wp2_with fail
        refine wp_region_later (by kernel_rfl) (by kernel_rfl) ?_
        repeat go_big_quiet_step (fail)
        refine wpQuiet_nil ?_
        rintro w2 ⟨⟨_, hb2⟩, rfl⟩
        go_wp2_with fail
        go_ret
        refine Ret.mk ?_ (hbe.trans (hb2.mono hbe.size))
        rw [← HR.out]
        unfold ckTk
        rw [HX.out, if_neg (by decide), if_pos (HA2.out trivial)]
        rfl
    · obtain rfl : k = i := by omega
      clear HC
      have d0 := hx0.cell 0
      have d1 := hx0.cell 1
      have df := hx0.frozen
      have dz := hx0.lt
      have e0 := hx1.cell 0
      have e1 := hx1.cell 1
      have e2 := hx1.cell 2
      have e3 := hx1.cell 3
      have e4 := hx1.cell 4
      have ez := hx1.lt
      simp only [List.getElem?_cons_zero, List.getElem?_cons_succ] at d0 d1 e0 e1 e2 e3 e4
      have HR2 : Hid ((if badPl b.st.length tfr || badPl b.st.length tto then 10 else if tfr = tto then 1 else ckMass ⟨tlo, thi⟩) = R) := by
        have h := HR.out
        unfold ckTk at h
        rw [HX.out, if_neg (by decide), if_neg (by rw [HY.out]; decide)] at h
        exact h
      clear HR HX HY HN
      by_cases p1 : tfr < -1
      · go_wp2_with fail
        go_ret
        refine Ret.mk ?_ hbe
        rw [← HR2.out]; simp [badPl, p1]
      by_cases p2 : (b.st.length : Int) ≤ tfr
      · go_wp2_with fail
        go_ret
        refine Ret.mk ?_ hbe
        rw [← HR2.out]; simp [badPl, p2]
      by_cases p3 : tto < -1
      · go_wp2_with fail
        go_ret
        refine Ret.mk ?_ hbe
        rw [← HR2.out]; simp [badPl, p3]
      by_cases p4 : (b.st.length : Int) ≤ tto
      · go_wp2_with fail
        go_ret
        refine Ret.mk ?_ hbe
        rw [← HR2.out]; simp [badPl, p4]
      have HR3 : Hid ((if tfr = tto then 1 else ckMass ⟨tlo, thi⟩) = R) := by
        have h := HR2.out
        rw [if_neg (by simp [badPl]; omega)] at h
        exact h
      by_cases p5 : tfr = tto
      · go_wp2_with fail
        go_ret
        refine Ret.mk ?_ hbe
        rw [← HR3.out, if_pos p5]; rfl
      have HR4 : Hid (ckMass ⟨tlo, thi⟩ = R) := by have h := HR3.out; rw [if_neg p5] at h; exact h
      go_wp2_with (go_at_call 20; refine (ckMass55 ⟨_, _⟩ _).mono ?_; rw [HR4.out]; rintro e w3 ⟨rfl, hb3⟩)
      go_ret
      exact Ret.mk rfl (hbe.trans (hb3.mono hbe.size))
def ckTksL (b : Bk) : Nat → List Tk → Int
  | _, [] => 0
  | i, t :: l => if ckTk b i t = 0 then ckTksL b (i + 1) l else ckTk b i t
theorem ckTksL_drop (b : Bk) (k : Nat) (h : k < b.ts.length) : ckTksL b k (b.ts.drop k) = if ckTk b k b.ts[k] = 0 then ckTksL b (k + 1) (b.ts.drop (k + 1)) else ckTk b k b.ts[k] := by
  rw [List.drop_eq_getElem_cons h]; rfl
def ckRgs : List Rg → Int
  | [] => 0
  | r :: l => if ckRange r = 0 then ckRgs l else ckRange r
theorem ckRgs_drop (l : List Rg) (k : Nat) (h : k < l.length) : ckRgs (l.drop k) = if ckRange l[k] = 0 then ckRgs (l.drop (k + 1)) else ckRange l[k] := by
  rw [List.drop_eq_getElem_cons h]; rfl
def ckBook (b : Bk) : Int := if 32 < b.st.length then 5 else if ckRgs b.st ≠ 0 then ckRgs b.st else if 128 < b.ts.length then 5 else ckTksL b 0 b.ts
set_option maxHeartbeats 1000000 in
theorem ckBook24 (v1 v2 : Value) (b : Bk) (w : World) (hv : BkR w w.heap.size v1 v2 b) :
    Calls Tryz.prog 5 #[.agg #[v1, v2]] w (Ret (.int .i64 (ckBook b)) w) := by
  have H67 := Lib.hid (fun (w' : World) (hb : Below w.heap.size w w') i t (hi : b.ts[i]? = some t) => ckTk67 v1 v2 b i t w' (hv.later hb) hi)
  obtain ⟨⟨a1, c1, rfl, hl1, hA1⟩, ⟨a2, c2, rfl, hl2, hA2⟩, hids⟩ := hv
  have HA1 := Lib.hid hA1
  clear hA1
  clear hA2 hids
  obtain ⟨R, hR⟩ : ∃ R, ckBook b = R := ⟨_, rfl⟩
  rw [hR]
  have HR := Lib.hid hR
  clear hR
  have W1 : Below w.heap.size w (w.alloc (.cells #[.slice a1 b.st.length c1, .slice a2 b.ts.length c2] 25)) := (Below.refl _ _).alloc (Nat.le_refl _) _
  have HW1 := Lib.hid W1
  clear W1
  go_enter Tryz.func5, Tryz.ntmps5
  by_cases h1 : 32 < b.st.length
  · go_wp2_with fail
    go_ret
    exact Ret.mk (by rw [← HR.out]; unfold ckBook; rw [if_pos h1]; rfl) HW1.out
  go_wp2_with fail
  obtain ⟨S, hS⟩ : ∃ S, ckRgs b.st = S := ⟨_, rfl⟩
  have HR1 : Hid ((if S ≠ 0 then S else if 128 < b.ts.length then 5 else ckTksL b 0 b.ts) = R) := by
    have h := HR.out
    unfold ckBook at h
    rw [if_neg h1, hS] at h
    exact h
  have HS := Lib.hid hS
  clear hS
  clear HR
  go_loopw [3] (fun j wr => ∃ k : Nat, k ≤ b.st.length ∧ j = .int .i64 k ∧ Below w.heap.size w wr ∧ Box wr w.heap.size 25 [.slice a1 b.st.length c1, .slice a2 b.ts.length c2] ∧ ckRgs (b.st.drop k) = S) (fun j _ => b.st.length - (intOf j).toNat)
  case atStart => exact ⟨0, by omega, rfl, HW1.out, Box.newAt _ _ _ rfl, HS.out⟩
  case round =>
    obtain ⟨k, hk, rfl, hbe, hx0, hrel⟩ := hrel
    have HL := Lib.hid hrel
    clear hrel
    clear HS
    have d0 := hx0.cell 0
    have d1 := hx0.cell 1
    have dz := hx0.lt
    simp only [List.getElem?_cons_zero, List.getElem?_cons_succ] at d0 d1
    by_cases hlt : k < b.st.length
    · obtain ⟨bb, off, rfl, hbb, hcells⟩ := HA1.out (by omega)
      obtain ⟨e0, e1⟩ := ((hcells k hlt).below hbe hbb).c2
      clear hcells HA1
      have hd := Lib.hid (ckRgs_drop b.st k hlt)
      generalize b.st[k] = x at *
      have hcall := ckRange20 x
      obtain ⟨n, hn⟩ : ∃ n, ckRange x = n := ⟨_, rfl⟩
      rw [hn] at hd hcall
      have HC := Lib.hid hcall
      clear hcall
      clear hn
      by_cases hn0 : n = 0
      · go_wp2_with (go_at_call 28; refine (HC.out _).mono ?_; rintro e w3 ⟨rfl, hb3⟩)
        go_roundw
        case rel => exact ⟨k + 1, by omega, by go_num, hbe.trans (hb3.mono hbe.size), hx0.later hb3, by rw [← HL.out, hd.out, if_pos hn0]⟩
        case measure => simp [intOf]; omega
      · go_wp2_with (go_at_call 28; refine (HC.out _).mono ?_; rintro e w3 ⟨rfl, hb3⟩)
        go_ret
        refine Ret.mk ?_ (hbe.trans (hb3.mono hbe.size))
        have h2 := HL.out
        rw [hd.out, if_neg hn0] at h2
        have h3 := HR1.out
        rw [← h2, if_pos hn0] at h3
        rw [← h3]; rfl
    · obtain rfl : b.st.length = k := by omega
      have hS0 : S = 0 := by have h := HL.out; rw [List.drop_length] at h; exact h.symm
      have HR2 : Hid ((if 128 < b.ts.length then 5 else ckTksL b 0 b.ts) = R) := by have h := HR1.out; rw [if_neg (by simp [hS0])] at h; exact h
      clear HR1 HL hS0
      by_cases h2 : 128 < b.ts.length
      · go_wp2_with fail
        go_ret
        exact Ret.mk (by rw [← HR2.out, if_pos h2]; rfl) hbe
      have HR3 : Hid (ckTksL b 0 b.ts = R) := by have h := HR2.out; rw [if_neg h2] at h; exact h
      clear HR2
      go_wp2_with fail
      clear d0 d1
      go_loopw [5] (fun j wr => ∃ k : Nat, k ≤ b.ts.length ∧ j = .int .i64 k ∧ Below w.heap.size w wr ∧ Box wr w.heap.size 25 [.slice a1 b.st.length c1, .slice a2 b.ts.length c2] ∧ ckTksL b k (b.ts.drop k) = R) (fun j _ => b.ts.length - (intOf j).toNat)
      case atStart => exact ⟨0, by omega, rfl, hbe, hx0, HR3.out⟩
      case round =>
        clear HR3 hbe hx0 dz
        obtain ⟨k, hk, rfl, hbe, hx0, hrel⟩ := hrel
        have HL := Lib.hid hrel
        clear hrel
        have d0 := hx0.cell 0
        have d1 := hx0.cell 1
        have dz := hx0.lt
        simp only [List.getElem?_cons_zero, List.getElem?_cons_succ] at d0 d1
        by_cases hlt : k < b.ts.length
        · have hd := Lib.hid (ckTksL_drop b k hlt)
          have hcall := H67.out wr hbe k b.ts[k] (List.getElem?_eq_getElem hlt)
          obtain ⟨n, hn⟩ : ∃ n, ckTk b k b.ts[k] = n := ⟨_, rfl⟩
          rw [hn] at hd hcall
          have HC := Lib.hid hcall
          clear hcall
          clear hn
          by_cases hn0 : n = 0
          · go_wp2_with (go_at_call 29; refine HC.out.mono ?_; rintro e w3 ⟨rfl, hb3⟩)
            go_roundw
            case rel => exact ⟨k + 1, by omega, by go_num, hbe.trans (hb3.mono hbe.size), hx0.later hb3, by rw [← HL.out, hd.out, if_pos hn0]⟩
            case measure => simp [intOf]; omega
          · go_wp2_with (go_at_call 29; refine HC.out.mono ?_; rintro e w3 ⟨rfl, hb3⟩)
            go_ret
            refine Ret.mk ?_ (hbe.trans (hb3.mono hbe.size))
            rw [← HL.out, hd.out, if_neg hn0]; rfl
        · obtain rfl : b.ts.length = k := by omega
          go_wp2_with fail
          go_ret
          exact Ret.mk (by rw [← HL.out, List.drop_length]; rfl) hbe
end Go.Proofs.YtflchbejjofppaaGreatDoor
/- A map to bools that a call makes, as the list of its keys that hold true. -/
namespace Go.Proofs.YtflchbejjofppaaGreatDoor
open Go Go.Proofs Go.RowKit Go.Maps
def SetM {κ : Type} [DecidableEq κ] (f : κ → Lit) (P : Program) (k e : TypeId) (w : World) (b : Nat) (L : List κ) : Prop :=
  ∃ D : DataW Unit, w.ownsMap P k (plainElem P e) b L.length D ∧ IsMap D ∧ ∀ x, D.atKey (f x) (.lit (.bool false)) = .lit (.bool (decide (x ∈ L)))
section
variable {κ : Type} [DecidableEq κ] {f : κ → Lit} {P : Program} {k e : TypeId} {w w' : World} {b : Nat} {L : List κ}
theorem SetM.kept {row : Option Nat} (h : SetM f P k e w b L) (hg : w.grownBy w' row) (hne : some b ≠ row) : SetM f P k e w' b L :=
  let ⟨D, h1, h2⟩ := h; ⟨D, h1.kept hg hne, h2⟩
theorem SetM.later (h : SetM f P k e w b L) (hb : Below w.heap.size w w') : SetM f P k e w' b L :=
  h.kept (row := none) ⟨hb.os, hb.tape, hb.output, hb.size, fun k hk _ => hb.block k hk⟩ (by simp)
theorem SetM.alloc (h : SetM f P k e w b L) (o : Obj) : SetM f P k e (w.alloc o) b L := h.later ((Below.refl _ _).alloc (Nat.le_refl _) _)
theorem SetM.lt (h : SetM f P k e w b L) : b < w.heap.size := let ⟨_, h1, _⟩ := h; h1.lt
theorem SetM.made (f : κ → Lit) (P : Program) (k e : TypeId) (w : World) : SetM f P k e (w.alloc (.map #[] 0)) w.heap.size [] :=
  ⟨.map [], World.ownsMap_made w P k _, ⟨[], rfl⟩, fun kl => by simp [DataW.atKey]⟩
theorem SetM.look {t : TypeId} (h : SetM f P k e w b L) (K : Keyed P k) (ht : P.underlying t = some (.map k e)) (he : P.underlying e = some .bool) (hz : (zeroValue e).run P w = .ok (.bool false) w) {key : Value} {x : κ} (hkey : keyOf P k key = some (f x)) :
    (Instr.lookup t (.map (some b)) key false).run P w = .ok (.bool (decide (x ∈ L))) w := by
  obtain ⟨D, h1, h2, h3⟩ := h
  obtain ⟨v, ps, hrun, hv⟩ := h1.lookup K ht hz (plainElem_bool (H := Unit) he false) hkey
  rw [h3 x] at hv
  have : v = .bool (decide (x ∈ L)) := by
    unfold plainElem at hv
    rw [he] at hv
    cases v <;> simp at hv
    rw [hv.1]
  rw [← this]; exact hrun
theorem wpList_look_set {t : TypeId} {ops : Array Oper} {rest : List Oper} {o : Oper} {a : Act} {Q : Exit → Act → World → Prop} (h : SetM f P k e w b L) (K : Keyed P k) (ht : P.underlying t = some (.map k e)) (he : P.underlying e = some .bool) (hz : (zeroValue e).run P w = .ok (.bool false) w)
    {key : Value} {x : κ} (hkey : keyOf P k key = some (f x)) (hg : o.guard = none) (m y : Operand) (hop : o.op = Op.lookup t m y false) (hm : a.eval m = .map (some b)) (hx : a.eval y = key)
    (hK : wpList P ops Q rest (a.put o.dst (.bool (decide (x ∈ L)))) w) : wpList P ops Q (o :: rest) a w := by
  refine wpList_plain hg fun K' hK' => ?_
  have hrun := h.look K ht he hz hkey
  unfold Oper.wp
  simp [execOp, hop, hm, hx, hrun, Result.andThen]
  exact hK' _ _ (by simpa using hK)
theorem wpList_put_set {t : TypeId} {ops : Array Oper} {rest : List Oper} {o : Oper} {a : Act} {Q : Exit → Act → World → Prop} (hf : ∀ x y, f x = f y → x = y) (hkl : ∀ x, WideAt.IsKeyLit (f x)) (h : SetM f P k e w b L) (K : Keyed P k) (ht : P.underlying t = some (.map k e)) (he : P.underlying e = some .bool)
    {key : Value} {x : κ} (hkey : keyOf P k key = some (f x)) (hn : L.length < maxLen) (hg : o.guard = none) (m y v : Operand) (hop : o.op = Op.mapUpdate t m y v) (hm : a.eval m = .map (some b)) (hx : a.eval y = key) (hv : a.eval v = .bool true)
    (hK : ∀ w', SetM f P k e w' b (x :: L) → w.grownBy w' (some b) → wpList P ops Q rest (a.put o.dst undef) w') : wpList P ops Q (o :: rest) a w := by
  obtain ⟨D, h1, h2, h3⟩ := h
  refine wpList_mapUpdate_own w hg m y v t hop k e K ht _ b L.length D hm h1 hn key (.bool true) (f x) hx hv hkey _ [] (plainElem_bool (H := Unit) he true) fun w' ho hgr => hK w' ⟨_, ho, ho.isMap, fun z => ?_⟩ hgr
  by_cases hk : z = x
  · subst hk
    rw [atKey_put_same h2 (hkl z)]
    simp
  · rw [atKey_put_other (fun h => hk (hf _ _ h)), h3 z]
    simp [hk]
end
def strLit (s : List UInt8) : Lit := .string s
def intLit (n : Int) : Lit := .int .i64 n
theorem strLit_inj (x y : List UInt8) (h : strLit x = strLit y) : x = y := by unfold strLit at h; simpa using h
theorem intLit_inj (x y : Int) (h : intLit x = intLit y) : x = y := by unfold intLit at h; simpa using h
end Go.Proofs.YtflchbejjofppaaGreatDoor
