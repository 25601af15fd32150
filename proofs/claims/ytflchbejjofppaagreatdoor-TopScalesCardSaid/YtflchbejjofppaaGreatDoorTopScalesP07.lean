/- Lemmas on the way to the law TopScales (part 7): WD WE WF WG WI WJ WL WM WN WQ WS -/
import Derived.Test.YtflchbejjofppaaGreatDoorTopScalesP06
import Derived.StillTailTactics
import Derived.Test.YtflchbejjofppaaGreatDoorTopScalesP01
import Derived.Deep.RegionLaw
import Derived.Maps.Own
import Derived.Maps.OwnOps
import Derived.Maps.OwnSet
import Derived.Maps.Views
set_option linter.unusedVariables false
set_option linter.unusedSimpArgs false

/- Walks over lists of ranges. -/
namespace Go.Proofs.YtflchbejjofppaaGreatDoor
open Go Go.Proofs Go.RowKit
def ckMassesL : List Rg → Int
  | [] => 0
  | r :: l => if ckMass r = 0 then ckMassesL l else ckMass r
def ckMasses (l : List Rg) : Int := if l.length = 0 then 2 else if 256 < l.length then 5 else ckMassesL l
theorem ckMassesL_drop (l : List Rg) (k : Nat) (h : k < l.length) : ckMassesL (l.drop k) = if ckMass l[k] = 0 then ckMassesL (l.drop (k+1)) else ckMass l[k] := by
  rw [List.drop_eq_getElem_cons h]; rfl
theorem eq0_false {n : Nat} (h : ¬ n = 0) : ((n : Int) == 0) = false := beq_eq_false_iff_ne.2 (by omega)
set_option maxHeartbeats 400000 in
theorem ckMasses57 (v : Value) (l : List Rg) (w : World) (hv : Sl Rg.enc 2 w w.heap.size v l) :
    Calls Tryz.prog 19 #[v] w (Ret (.int .i64 (ckMasses l)) w) := by
  obtain ⟨a, c, rfl, hlen, hA⟩ := hv
  generalize hR : ckMasses l = R
  unfold ckMasses at hR
  have HR := Lib.hid hR
  clear hR
  have H := Lib.hid ckMass55
  have hA' := Lib.hid hA
  clear hA
  go_enter Tryz.func19, Tryz.ntmps19
  by_cases h0 : l.length = 0
  · go_wp2_with fail
    go_ret
    have := HR.out
    exact Ret.mk (by simp_all) (Below.refl _ _)
  have h0' := eq0_false h0
  by_cases h1 : 256 < l.length
  · go_wp2_with fail
    go_ret
    have := HR.out
    exact Ret.mk (by simp_all) (Below.refl _ _)
  go_wp2_with fail
  have HR1 : Hid (ckMassesL l = R) := by have := HR.out; rw [if_neg h0, if_neg h1] at this; exact this
  clear HR
  go_loopw [3] (fun i wr => ∃ k : Nat, k ≤ l.length ∧ i = .int .i64 k ∧ Below w.heap.size w wr ∧ ckMassesL (l.drop k) = R) (fun i _ => l.length - (intOf i).toNat)
  case atStart => exact ⟨0, by omega, rfl, Below.refl _ _, HR1.out⟩
  case round =>
    obtain ⟨k, hk, rfl, hb, hrel⟩ := hrel
    have HR := Lib.hid hrel
    clear hrel HR1
    by_cases hlt : k < l.length
    · obtain ⟨b, off, rfl, hbb, hcells⟩ := hA'.out (by omega)
      have hd := Lib.hid (ckMassesL_drop l k hlt)
      obtain ⟨c0, c1⟩ := ((hcells k hlt).below hb hbb).c2
      clear hcells hA'
      generalize l[k] = x at *
      have HX := H.out x
      generalize ckMass x = r at *
      have HX1 := Lib.hid HX
      clear HX
      by_cases hr : r = 0
      all_goals go_wp2_with (go_at_call 20; refine (HX1.out _).mono ?_; rintro e w' ⟨rfl, hb1⟩)
      · go_roundw
        case rel => exact ⟨k + 1, by omega, by go_num, hb.trans (hb1.mono hb.size), by rw [← HR.out, hd.out, if_pos hr]⟩
        case measure => simp [intOf]; omega
      · go_ret
        exact Ret.mk (by have := HR.out; rw [hd.out, if_neg hr] at this; simp [this]) (hb.trans (hb1.mono hb.size))
    · obtain rfl : l.length = k := by omega
      go_wp2_with fail
      go_ret
      exact Ret.mk (by have := HR.out; simp [ckMassesL] at this; simp [this]) hb
set_option maxHeartbeats 400000 in
theorem ckMasses86 (v : Value) (l : List Rg) (w : World) (hv : Sl Rg.enc 2 w w.heap.size v l) :
    Calls Tryz.prog 50 #[v] w (Ret (.int .i64 (ckMasses l)) w) := by
  obtain ⟨a, c, rfl, hlen, hA⟩ := hv
  generalize hR : ckMasses l = R
  unfold ckMasses at hR
  have HR := Lib.hid hR
  clear hR
  have H := Lib.hid ckMass70
  have hA' := Lib.hid hA
  clear hA
  go_enter Tryz.func50, Tryz.ntmps50
  by_cases h0 : l.length = 0
  · go_wp2_with fail
    go_ret
    have := HR.out
    exact Ret.mk (by simp_all) (Below.refl _ _)
  have h0' := eq0_false h0
  by_cases h1 : 256 < l.length
  · go_wp2_with fail
    go_ret
    have := HR.out
    exact Ret.mk (by simp_all) (Below.refl _ _)
  go_wp2_with fail
  have HR1 : Hid (ckMassesL l = R) := by have := HR.out; rw [if_neg h0, if_neg h1] at this; exact this
  clear HR
  go_loopw [16] (fun i wr => ∃ k : Nat, k ≤ l.length ∧ i = .int .i64 k ∧ Below w.heap.size w wr ∧ ckMassesL (l.drop k) = R) (fun i _ => l.length - (intOf i).toNat)
  case atStart => exact ⟨0, by omega, rfl, Below.refl _ _, HR1.out⟩
  case round =>
    obtain ⟨k, hk, rfl, hb, hrel⟩ := hrel
    have HR := Lib.hid hrel
    clear hrel HR1
    by_cases hlt : k < l.length
    · obtain ⟨b, off, rfl, hbb, hcells⟩ := hA'.out (by omega)
      have hd := Lib.hid (ckMassesL_drop l k hlt)
      obtain ⟨c0, c1⟩ := ((hcells k hlt).below hb hbb).c2
      clear hcells hA'
      generalize l[k] = x at *
      have HX := H.out x
      generalize ckMass x = r at *
      have HX1 := Lib.hid HX
      clear HX
      by_cases hr : r = 0
      all_goals go_wp2_with (go_at_call 55; refine (HX1.out _).mono ?_; rintro e w' ⟨rfl, hb1⟩)
      · go_roundw
        case rel => exact ⟨k + 1, by omega, by go_num, (hb.alloc hb.size _).trans (hb1.mono (by have := hb.size; simp; omega)), by rw [← HR.out, hd.out, if_pos hr]⟩
        case measure => simp [intOf]; omega
      · go_ret
        exact Ret.mk (by have := HR.out; rw [hd.out, if_neg hr] at this; simp [this]) ((hb.alloc hb.size _).trans (hb1.mono (by have := hb.size; simp; omega)))
    · obtain rfl : l.length = k := by omega
      go_wp2_with fail
      go_ret
      exact Ret.mk (by have := HR.out; simp [ckMassesL] at this; simp [this]) hb
end Go.Proofs.YtflchbejjofppaaGreatDoor
/- Walks: equal ranges, net weights. -/
namespace Go.Proofs.YtflchbejjofppaaGreatDoor
open Go Go.Proofs Go.RowKit
def z : Rg := ⟨0, 0⟩
theorem ckRange_0 {r : Rg} (h : ckRange r = 0) : -999999999 ≤ r.lo ∧ r.lo ≤ r.hi ∧ r.hi ≤ 999999999 := by
  unfold ckRange farB at h
  by_cases h1 : 999999999 < r.lo
  · simp [h1] at h
  by_cases h2 : r.lo < -999999999
  · simp [h2] at h
  by_cases h3 : 999999999 < r.hi
  · simp [h3] at h
  by_cases h4 : r.hi < r.lo
  · simp [h4] at h
    split at h <;> simp at h
  omega
theorem ckMass_0 {r : Rg} (h : ckMass r = 0) : 0 ≤ r.lo ∧ r.lo ≤ r.hi ∧ r.hi ≤ 999999999 := by
  unfold ckMass at h
  split at h
  · rename_i h1
    have := ckRange_0 h1
    split at h <;> simp at h
    omega
  · exact absurd h ‹_›
theorem firstNZ_2 {a b : Int} : firstNZ [a, b] = 0 ↔ a = 0 ∧ b = 0 := by
  simp only [firstNZ]
  by_cases h : a = 0 <;> by_cases h2 : b = 0 <;> simp [h, h2]
def netE (g t : Rg) : Int := firstNZ [ckMass g, ckMass t]
def netR (g t : Rg) : Rg := ⟨max 0 (g.lo - t.hi), g.hi - t.lo⟩
def netF (g t : Rg) : Rg := if netE g t ≠ 0 ∨ g.hi < t.lo then z else netR g t
def netB (g t : Rg) : Int := if netE g t ≠ 0 then netE g t else if g.hi < t.lo then 15 else 0
set_option maxHeartbeats 400000 in
theorem net36 (g t : Rg) (w : World) : Calls Tryz.prog 25 #[.agg #[.int .i64 g.lo, .int .i64 g.hi], .agg #[.int .i64 t.lo, .int .i64 t.hi]] w
    (Ret (.tuple #[.agg #[.int .i64 (netF g t).lo, .int .i64 (netF g t).hi], .int .i64 (netB g t)]) w) := by
  generalize hRF : netF g t = RF
  generalize hRB : netB g t = RB
  have HRF := Lib.hid hRF
  clear hRF
  have HRB := Lib.hid hRB
  clear hRB
  go_enter Tryz.func25, Tryz.ntmps25
  go_wp2_with fail
  refine wp_region_head_later 4 (by kernel_rfl) (by kernel_rfl) ?_
  simp only [List.take_succ_cons, List.take_zero, List.drop_succ_cons, List.drop_zero]
  repeat go_big_quiet_step ((go_at_call 55; exact Calls.later (ckMass70 ⟨_, _⟩ _)))
  refine wpQuiet_nil ?_
  rintro w1 ⟨⟨_, hb1⟩, rfl⟩
  obtain ⟨c0, c1, c2, f0, f1, f2, z0, z1, z2⟩ := boxes3 (w := w) (by simp) hb1
  have hB : Below w.heap.size w w1 := (((Below.refl w.heap.size w).alloc (Nat.le_refl _) _).alloc (by simp) _ |>.alloc (by simp; omega) _).trans (hb1.mono (by simp; omega))
  have HB := Lib.hid hB
  clear hB hb1
  generalize hE : firstNZ [ckMass g, ckMass t] = E
  have hfirst := first63 (.slice (some ⟨w1.heap.size, 0, none⟩) 2 2) [ckMass g, ckMass t] _ (Sl.lit encI_len _ w1 #[.int .i64 (ckMass g), .int .i64 (ckMass t)] 30 2 rfl rfl (by simp))
  rw [hE] at hfirst
  have HF := Lib.hid hfirst
  clear hfirst
  have hz : E = 0 → 0 ≤ g.lo ∧ g.hi ≤ 999999999 ∧ g.lo ≤ g.hi ∧ 0 ≤ t.lo ∧ t.hi ≤ 999999999 ∧ t.lo ≤ t.hi := by
    rintro rfl
    have := firstNZ_2.1 hE
    have h1 := ckMass_0 this.1
    have h2 := ckMass_0 this.2
    omega
  have HE := Lib.hid (show netE g t = E from hE)
  clear hE
  by_cases h0 : E = 0
  · have hz := hz h0
    subst h0
    by_cases h1 : g.hi < t.lo
    · go_wp2_with (go_at_call 33; refine HF.out.mono ?_; rintro e w' ⟨rfl, rfl⟩)
      refine bodyPost_ret (v := .tuple #[.agg #[.int .i64 0, .int .i64 0], .int .i64 15]) (by simp [results, Tryz.results25, go_sem, *]) rfl ?_
      refine Ret.mk ?_ ?_
      · rw [← HRF.out, ← HRB.out]
        simp [netF, netB, HE.out, h1, z]
      · repeat (first | exact HB.out | exact Below.refl _ _ | refine Below.setCell ?_ (by first | (dsimp only; omega) | (simp; done) | (simp; omega)) _ | refine Below.alloc ?_ (by first | omega | (simp; done) | (simp; omega)) _ | refine Below.drew ?_)
    · go_wp2_with (go_at_call 33; refine HF.out.mono ?_; rintro e w' ⟨rfl, rfl⟩)
      all_goals
        refine bodyPost_ret (v := .tuple #[.agg #[.int .i64 (netR g t).lo, .int .i64 (netR g t).hi], .int .i64 0]) (by simp [results, Tryz.results25, go_sem, netR, *] <;> omega) rfl ?_
        refine Ret.mk ?_ ?_
        · rw [← HRF.out, ← HRB.out]
          have h1 : ¬ g.hi < t.lo := by omega
          simp [netF, netB, HE.out, h1]
        · repeat (first | exact HB.out | exact Below.refl _ _ | refine Below.setCell ?_ (by first | (dsimp only; omega) | (simp; done) | (simp; omega)) _ | refine Below.alloc ?_ (by first | omega | (simp; done) | (simp; omega)) _ | refine Below.drew ?_)
  · clear hz
    go_wp2_with (go_at_call 33; refine HF.out.mono ?_; rintro e w' ⟨rfl, rfl⟩)
    refine bodyPost_ret (v := .tuple #[.agg #[.int .i64 0, .int .i64 0], .int .i64 E]) (by simp [results, Tryz.results25, go_sem, *]) rfl ?_
    refine Ret.mk ?_ ?_
    · rw [← HRF.out, ← HRB.out]
      simp [netF, netB, HE.out, h0, z]
    · repeat (first | exact HB.out | exact Below.refl _ _ | refine Below.setCell ?_ (by first | (dsimp only; omega) | (simp; done) | (simp; omega)) _ | refine Below.alloc ?_ (by first | omega | (simp; done) | (simp; omega)) _ | refine Below.drew ?_)
end Go.Proofs.YtflchbejjofppaaGreatDoor
/- Walks: sums of masses, common masses. -/
namespace Go.Proofs.YtflchbejjofppaaGreatDoor
open Go Go.Proofs Go.RowKit
def dr : List Rg → Rg
  | [] => z
  | r :: l => ⟨r.lo + (dr l).lo, r.hi + (dr l).hi⟩
theorem dr_snoc (l : List Rg) (r : Rg) : dr (l ++ [r]) = ⟨(dr l).lo + r.lo, (dr l).hi + r.hi⟩ := by
  induction l with
  | nil => simp [dr, z]
  | cons x l ih => simp only [List.cons_append, dr, ih]; simp only [Rg.mk.injEq]; omega
theorem take_snoc {α : Type} (l : List α) (k : Nat) (h : k < l.length) : l.take (k + 1) = l.take k ++ [l[k]] := by
  rw [List.take_succ_eq_append_getElem h]
def massOk (r : Rg) : Prop := 0 ≤ r.lo ∧ r.lo ≤ r.hi ∧ r.hi ≤ 999999999
theorem dr_bd (l : List Rg) (h : ∀ r ∈ l, massOk r) : 0 ≤ (dr l).lo ∧ (dr l).lo ≤ (dr l).hi ∧ (dr l).hi ≤ 999999999 * l.length := by
  induction l with
  | nil => simp [dr, z]
  | cons x l ih =>
    have h1 := ih fun r hr => h r (List.mem_cons_of_mem _ hr)
    have h2 := h x (by simp)
    unfold massOk at h2
    simp only [dr, List.length_cons]
    omega
theorem ckMassesL_0 {l : List Rg} (h : ckMassesL l = 0) : ∀ r ∈ l, massOk r := by
  induction l with
  | nil => simp
  | cons x l ih =>
    unfold ckMassesL at h
    split at h
    · rename_i h1
      intro r hr
      rcases List.mem_cons.1 hr with rfl | hr
      · exact ckMass_0 h1
      · exact ih h r hr
    · exact absurd h ‹_›
theorem ckMasses_0 {l : List Rg} (h : ckMasses l = 0) : 0 < l.length ∧ l.length ≤ 256 ∧ ∀ r ∈ l, massOk r := by
  unfold ckMasses at h
  split at h
  · simp at h
  · split at h
    · simp at h
    · exact ⟨by omega, by omega, ckMassesL_0 h⟩
def drE (l : List Rg) : Int := if ckMasses l ≠ 0 then ckMasses l else if 999999999 < (dr l).hi then 4 else 0
def drR (l : List Rg) : Rg := if drE l = 0 then dr l else z
set_option maxHeartbeats 400000 in
theorem drafts52 (v : Value) (l : List Rg) (w : World) (hv : Sl Rg.enc 2 w w.heap.size v l) :
    Calls Tryz.prog 21 #[v] w (Ret (.tuple #[.agg #[.int .i64 (drR l).lo, .int .i64 (drR l).hi], .int .i64 (drE l)]) w) := by
  obtain ⟨a, c, hve, hlen, hA⟩ := id hv
  generalize hRF : drR l = RF
  generalize hRB : drE l = RB
  have HRF := Lib.hid hRF
  clear hRF
  have HRB := Lib.hid hRB
  clear hRB
  have HA := Lib.hid hA
  clear hA
  have H0 := Lib.hid (@ckMasses_0 l)
  have hC := ckMasses86 v l (w.alloc (.cells #[.int .i64 0, .int .i64 0] 34)) (hv.later ((Below.refl _ _).alloc (Nat.le_refl _) _))
  subst hve
  obtain ⟨E, hE⟩ : ∃ E, ckMasses l = E := ⟨_, rfl⟩
  rw [hE] at hC H0
  have HE := Lib.hid hE
  clear hE
  have HC := Lib.hid hC
  clear hC
  clear hv
  go_enter Tryz.func21, Tryz.ntmps21
  by_cases h0 : E = 0
  rotate_left
  · go_wp2_with (go_at_call 50; refine HC.out.mono ?_; rintro e w1 ⟨rfl, hb1⟩; obtain ⟨c0, f0, z0⟩ := boxes1 (w := w) (by simp) hb1)
    refine bodyPost_ret (v := .tuple #[.agg #[.int .i64 0, .int .i64 0], .int .i64 E]) (by simp [results, Tryz.results21, go_sem, *]) rfl ?_
    refine Ret.mk ?_ ?_
    · rw [← HRF.out, ← HRB.out]
      have := HE.out
      simp [drR, drE, this, h0, z]
    · have hB : Below w.heap.size w w1 := ((Below.refl _ _).alloc (Nat.le_refl _) _).trans (hb1.mono (by simp))
      repeat (first | exact hB | exact Below.refl _ _ | refine Below.setCell ?_ (by first | (dsimp only; omega) | (simp; done) | (simp; omega)) _ | refine Below.alloc ?_ (by first | omega | (simp; done) | (simp; omega)) _ | refine Below.drew ?_)
  subst h0
  obtain ⟨hl0, hl, hok⟩ := H0.out rfl
  clear H0
  have HO := Lib.hid hok
  clear hok
  have hz : ∀ w1 : World, Below (w.alloc (.cells #[.int .i64 0, .int .i64 0] 34)).heap.size (w.alloc (.cells #[.int .i64 0, .int .i64 0] 34)) w1 → Below w.heap.size w w1 := fun _ h => ((Below.refl _ _).alloc (Nat.le_refl _) _).trans (h.mono (by simp))
  have HZ := Lib.hid hz
  clear hz
  go_wp2_with (go_at_call 50; refine HC.out.mono ?_; rintro e w1 ⟨rfl, hb1⟩; obtain ⟨c0, f0, z0⟩ := boxes1 (w := w) (by simp) hb1; have hB := HZ.out _ hb1)
  have hx := (Box.newAt w #[.int .i64 0, .int .i64 0] 34 rfl).later hb1
  clear HC HZ hb1
  go_loopw [16] (fun i wr => ∃ k : Nat, k ≤ l.length ∧ i = .int .i64 k ∧ Below w.heap.size w wr ∧ Box wr w.heap.size 34 [.int .i64 0, .int .i64 0] ∧ Box wr w1.heap.size 34 [.int .i64 (dr (l.take k)).lo, .int .i64 (dr (l.take k)).hi]) (fun i _ => l.length - (intOf i).toNat)
  case atStart =>
    refine ⟨0, by omega, rfl, ?_, ?_, ?_⟩
    · repeat (first | exact hB | exact Below.refl _ _ | refine Below.setCell ?_ (by first | (dsimp only; omega) | (simp; done) | (simp; omega)) _ | refine Below.alloc ?_ (by first | omega | (simp; done) | (simp; omega)) _ | refine Below.drew ?_)
    · exact hx.alloc _
    · exact Box.newAt _ _ _ rfl
  case round =>
    obtain ⟨k, hk, rfl, hb, hx0, hx1⟩ := hrel
    clear c0 f0 hB hx
    by_cases hlt : k < l.length
    · obtain ⟨b, off, rfl, hbb, hcells⟩ := HA.out (by omega)
      obtain ⟨c0, c1⟩ := ((hcells k hlt).below hb hbb).c2
      clear hcells HA
      obtain ⟨d0, d1, df, dz⟩ := hx1.v2
      have hd := Lib.hid (show dr (l.take (k + 1)) = ⟨(dr (l.take k)).lo + l[k].lo, (dr (l.take k)).hi + l[k].hi⟩ by rw [take_snoc l k hlt, dr_snoc])
      have bd := dr_bd (l.take k) (fun r hr => HO.out r (List.mem_of_mem_take hr))
      have bx := HO.out l[k] (List.getElem_mem hlt)
      have bl : (l.take k).length ≤ k := List.length_take_le _ _
      generalize l[k] = x at *
      generalize dr (l.take k) = s at *
      obtain ⟨b1, b2, b3⟩ := bx
      go_wp2_with fail
      go_roundw
      case rel =>
        refine ⟨k + 1, by omega, by go_num, ?_, ?_, ?_⟩
        · repeat (first | exact hb | exact Below.refl _ _ | refine Below.setCell ?_ (by first | (dsimp only; omega) | (simp; done) | (simp; omega)) _ | refine Below.alloc ?_ (by first | omega | (simp; done) | (simp; omega)) _ | refine Below.drew ?_)
        · repeat (first | exact hx0 | refine Box.alloc ?_ _ | refine Box.drew ?_ | refine Box.other ?_ _ (by first | (dsimp only; omega) | (simp; done) | (simp; omega)))
        · rw [hd.out]; exact ((hx1.set 0 _).set 1 _).alloc _
      case measure => simp [intOf]; omega
    · obtain rfl : l.length = k := by omega
      rw [List.take_length] at hx1
      obtain ⟨d0, d1, df, dz⟩ := hx1.v2
      obtain ⟨e0, e1, ef, ez⟩ := hx0.v2
      have hE := HE
      by_cases hbig : 999999999 < (dr l).hi
      · go_wp2_with fail
        refine bodyPost_ret (v := .tuple #[.agg #[.int .i64 0, .int .i64 0], .int .i64 4]) (by simp [results, Tryz.results21, go_sem, *]) rfl ?_
        refine Ret.mk ?_ ?_
        · rw [← HRF.out, ← HRB.out]
          have := HE.out
          simp [drR, drE, this, hbig, z]
        · repeat (first | exact hb | exact Below.refl _ _ | refine Below.setCell ?_ (by first | (dsimp only; omega) | (simp; done) | (simp; omega)) _ | refine Below.alloc ?_ (by first | omega | (simp; done) | (simp; omega)) _ | refine Below.drew ?_)
      · go_wp2_with fail
        refine bodyPost_ret (v := .tuple #[.agg #[.int .i64 (dr l).lo, .int .i64 (dr l).hi], .int .i64 0]) (by simp [results, Tryz.results21, go_sem, *]) rfl ?_
        refine Ret.mk ?_ ?_
        · rw [← HRF.out, ← HRB.out]
          have := HE.out
          have : ¬ 999999999 < (dr l).hi := by omega
          simp [drR, drE, *]
        · repeat (first | exact hb | exact Below.refl _ _ | refine Below.setCell ?_ (by first | (dsimp only; omega) | (simp; done) | (simp; omega)) _ | refine Below.alloc ?_ (by first | omega | (simp; done) | (simp; omega)) _ | refine Below.drew ?_)
end Go.Proofs.YtflchbejjofppaaGreatDoor
/- Walks: common masses. -/
namespace Go.Proofs.YtflchbejjofppaaGreatDoor
open Go Go.Proofs Go.RowKit
def meet2 (a x : Rg) : Rg := ⟨max a.lo x.lo, min a.hi x.hi⟩
theorem meet2_enc (s x : Rg) : (meet2 s x).enc = [.int .i64 (if s.lo < x.lo then x.lo else s.lo), .int .i64 (if x.hi < s.hi then x.hi else s.hi)] := by
  have h1 : max s.lo x.lo = if s.lo < x.lo then x.lo else s.lo := by split <;> omega
  have h2 : min s.hi x.hi = if x.hi < s.hi then x.hi else s.hi := by split <;> omega
  simp only [meet2, Rg.enc, h1, h2]
def agL (r : Rg) : List Rg → Rg
  | [] => r
  | x :: l => agL (meet2 r x) l
theorem agL_snoc (r : Rg) (l : List Rg) (x : Rg) : agL r (l ++ [x]) = meet2 (agL r l) x := by
  induction l generalizing r with
  | nil => rfl
  | cons y l ih => simp only [List.cons_append, agL, ih]
theorem meet2_self (r : Rg) : meet2 r r = r := by simp [meet2]
def ag (l : List Rg) : Rg := agL (l.headD z) l
theorem ag_succ (l : List Rg) (k : Nat) (h : k < l.length) : agL (l.headD z) (l.take (k + 1)) = meet2 (agL (l.headD z) (l.take k)) l[k] := by
  rw [take_snoc l k h, agL_snoc]
theorem headD_0 (l : List Rg) (h : 0 < l.length) : l.headD z = l[0] := by
  cases l with
  | nil => simp at h
  | cons x l => rfl
def agE (l : List Rg) : Int := if ckMasses l ≠ 0 then ckMasses l else if (ag l).hi < (ag l).lo then 15 else 0
def agR (l : List Rg) : Rg := if agE l = 0 then ag l else z
set_option maxHeartbeats 400000 in
theorem agree53 (v : Value) (l : List Rg) (w : World) (hv : Sl Rg.enc 2 w w.heap.size v l) :
    Calls Tryz.prog 22 #[v] w (Ret (.tuple #[.agg #[.int .i64 (agR l).lo, .int .i64 (agR l).hi], .int .i64 (agE l)]) w) := by
  obtain ⟨a, c, hve, hlen, hA⟩ := id hv
  generalize hRF : agR l = RF
  generalize hRB : agE l = RB
  have HRF := Lib.hid hRF
  clear hRF
  have HRB := Lib.hid hRB
  clear hRB
  have HA := Lib.hid hA
  clear hA
  have H0 := Lib.hid (@ckMasses_0 l)
  have hC := ckMasses86 v l (w.alloc (.cells #[.int .i64 0, .int .i64 0] 34)) (hv.later ((Below.refl _ _).alloc (Nat.le_refl _) _))
  subst hve
  obtain ⟨E, hE⟩ : ∃ E, ckMasses l = E := ⟨_, rfl⟩
  rw [hE] at hC H0
  have HE := Lib.hid hE
  clear hE
  have HC := Lib.hid hC
  clear hC
  clear hv
  go_enter Tryz.func22, Tryz.ntmps22
  by_cases h0 : E = 0
  rotate_left
  · go_wp2_with (go_at_call 50; refine HC.out.mono ?_; rintro e w1 ⟨rfl, hb1⟩; obtain ⟨c0, f0, z0⟩ := boxes1 (w := w) (by simp) hb1)
    refine bodyPost_ret (v := .tuple #[.agg #[.int .i64 0, .int .i64 0], .int .i64 E]) (by simp [results, Tryz.results22, go_sem, *]) rfl ?_
    refine Ret.mk ?_ ?_
    · rw [← HRF.out, ← HRB.out]
      have := HE.out
      simp [agR, agE, this, h0, z]
    · have hB : Below w.heap.size w w1 := ((Below.refl _ _).alloc (Nat.le_refl _) _).trans (hb1.mono (by simp))
      repeat (first | exact hB | exact Below.refl _ _ | refine Below.setCell ?_ (by first | (dsimp only; omega) | (simp; done) | (simp; omega)) _ | refine Below.alloc ?_ (by first | omega | (simp; done) | (simp; omega)) _ | refine Below.drew ?_)
  subst h0
  obtain ⟨hl0, hl, hok⟩ := H0.out rfl
  clear H0
  obtain ⟨b, off, rfl, hbb, hcells⟩ := HA.out hl0
  clear HA
  have h1 := Lib.hid (headD_0 l hl0)
  have HA := Lib.hid hcells
  clear hcells
  have hz : ∀ w1 : World, Below (w.alloc (.cells #[.int .i64 0, .int .i64 0] 34)).heap.size (w.alloc (.cells #[.int .i64 0, .int .i64 0] 34)) w1 → Below w.heap.size w w1 ∧ At w1 b off l[0].enc := fun _ h => by
    have := ((Below.refl w.heap.size w).alloc (Nat.le_refl _) _).trans (h.mono (by simp))
    refine ⟨this, ?_⟩
    have h2 := (HA.out 0 hl0).below this hbb
    rwa [Nat.zero_mul, Nat.add_zero] at h2
  generalize l[0] = x0 at *
  have HZ := Lib.hid hz
  clear hz
  clear hok
  go_wp2_with (go_at_call 50; refine HC.out.mono ?_; rintro e w1 ⟨rfl, hb1⟩; obtain ⟨c0, f0, z0⟩ := boxes1 (w := w) (by simp) hb1; have hBB := HZ.out _ hb1; obtain ⟨k0, k1⟩ := hBB.2.c2; have hB := hBB.1; clear hBB)
  have hx := (Box.newAt w #[.int .i64 0, .int .i64 0] 34 rfl).later hb1
  clear HC HZ hb1
  go_loopw [19] (fun i wr => ∃ k : Nat, k ≤ l.length ∧ i = .int .i64 k ∧ Below w.heap.size w wr ∧ Box wr w.heap.size 34 [.int .i64 0, .int .i64 0] ∧ Box wr w1.heap.size 34 (agL (l.headD z) (l.take k)).enc) (fun i _ => l.length - (intOf i).toNat)
  case atStart =>
    refine ⟨0, by omega, rfl, ?_, ?_, ?_⟩
    · repeat (first | exact hB | exact Below.refl _ _ | refine Below.setCell ?_ (by first | (dsimp only; omega) | (simp; done) | (simp; omega)) _ | refine Below.alloc ?_ (by first | omega | (simp; done) | (simp; omega)) _ | refine Below.drew ?_)
    · exact hx.alloc _
    · simp only [List.take_zero, agL]; rw [h1.out]; exact Box.newAt _ _ _ rfl
  case round =>
    obtain ⟨k, hk, rfl, hb, hx0, hx1⟩ := hrel
    clear c0 f0 hB hx k0 k1
    by_cases hlt : k < l.length
    · obtain ⟨c0, c1⟩ := ((HA.out k hlt).below hb hbb).c2
      clear HA
      obtain ⟨d0, d1, df, dz⟩ := hx1.v2
      have hd := Lib.hid (ag_succ l k hlt)
      generalize l[k] = x at *
      generalize agL (l.headD z) (l.take k) = s at *
      go_wp2_with fail
      go_roundw
      case rel =>
        refine ⟨k + 1, by omega, by go_num, ?_, ?_, ?_⟩
        · repeat (first | exact hb | exact Below.refl _ _ | refine Below.setCell ?_ (by first | (dsimp only; omega) | (simp; done) | (simp; omega)) _ | refine Below.alloc ?_ (by first | omega | (simp; done) | (simp; omega)) _ | refine Below.drew ?_)
        · repeat (first | exact hx0 | refine Box.alloc ?_ _ | refine Box.drew ?_ | refine Box.other ?_ _ (by first | (dsimp only; omega) | (simp; done) | (simp; omega)))
        · rw [hd.out, meet2_enc]; exact ((hx1.set 0 _).set 1 _).alloc _
      case measure => simp [intOf]; omega
    · obtain rfl : l.length = k := by omega
      rw [List.take_length, show agL (l.headD z) l = ag l from rfl] at hx1
      obtain ⟨s, hs⟩ : ∃ s, ag l = s := ⟨_, rfl⟩
      rw [hs] at hx1
      have HS := Lib.hid hs
      clear hs
      obtain ⟨d0, d1, df, dz⟩ := hx1.v2
      obtain ⟨e0, e1, ef, ez⟩ := hx0.v2
      clear hx0 hx1
      by_cases hbig : s.hi < s.lo
      · go_wp2_with fail
        refine bodyPost_ret (v := .tuple #[.agg #[.int .i64 0, .int .i64 0], .int .i64 15]) (by simp [results, Tryz.results22, go_sem, *]) rfl ?_
        refine Ret.mk ?_ ?_
        · rw [← HRF.out, ← HRB.out]
          simp [agR, agE, HE.out, HS.out, hbig, z]
        · repeat (first | exact hb | exact Below.refl _ _ | refine Below.setCell ?_ (by first | (dsimp only; omega) | (simp; done) | (simp; omega)) _ | refine Below.alloc ?_ (by first | omega | (simp; done) | (simp; omega)) _ | refine Below.drew ?_)
      · go_wp2_with fail
        refine bodyPost_ret (v := .tuple #[.agg #[.int .i64 s.lo, .int .i64 s.hi], .int .i64 0]) (by simp [results, Tryz.results22, go_sem, *]) rfl ?_
        refine Ret.mk ?_ ?_
        · rw [← HRF.out, ← HRB.out]
          have : ¬ s.hi < s.lo := by omega
          simp [agR, agE, HE.out, HS.out, this]
        · repeat (first | exact hb | exact Below.refl _ _ | refine Below.setCell ?_ (by first | (dsimp only; omega) | (simp; done) | (simp; omega)) _ | refine Below.alloc ?_ (by first | omega | (simp; done) | (simp; omega)) _ | refine Below.drew ?_)
end Go.Proofs.YtflchbejjofppaaGreatDoor
/- Walks: the drift of a scale. -/
namespace Go.Proofs.YtflchbejjofppaaGreatDoor
open Go Go.Proofs Go.RowKit
theorem Rg.enc_one (x : Rg) : ∀ u ∈ x.enc, u.oneCell' = true := by intro u hu; simp [Rg.enc] at hu; rcases hu with rfl | rfl <;> rfl
theorem Tryz.infoRg : (Tryz.prog.info? 34).map (fun i => (i.zero, i.size, i.bytes)) = some (some (.agg #[.int .i64 0, .int .i64 0]), 2, 16) := by kernel_rfl
end Go.Proofs.YtflchbejjofppaaGreatDoor
/- Walks: the drift of a scale, by the program. -/
namespace Go.Proofs.YtflchbejjofppaaGreatDoor
open Go Go.Proofs Go.RowKit
def RetSlE {α : Type} (f : α → List Value) (sz : Nat) (l : List α) (n : Int) (w : World) (e : Ending) (w' : World) : Prop := ∃ v, e = .returned (.tuple #[v, .int .i64 n]) ∧ Sl f sz w' w'.heap.size v l ∧ Below w.heap.size w w'
theorem RetSlE.fail {α : Type} {f : α → List Value} {sz : Nat} {n : Int} {w w' : World} (hb : Below w.heap.size w w') (v v' : Value) (hv : v = .slice none 0 0) (hn : v' = .int .i64 n) : RetSlE f sz [] n w (.returned (.tuple #[v, v'])) w' :=
  ⟨v, by rw [hn], by rw [hv]; exact Sl.nil f sz w' _ 0 none, hb⟩
end Go.Proofs.YtflchbejjofppaaGreatDoor
/- Walks: names. -/
namespace Go.Proofs.YtflchbejjofppaaGreatDoor
open Go Go.Proofs Go.RowKit
def okC (n : Int) : Bool := (decide (97 ≤ n) && decide (n ≤ 122)) || (decide (65 ≤ n) && decide (n ≤ 90)) || (decide (48 ≤ n) && decide (n ≤ 57)) || n == 45 || n == 95 || n == 46
def okB (c : UInt8) : Bool := okC (c.toNat : Int)
def isName (s : ByteArray) : Bool := decide (1 ≤ s.size) && decide (s.size ≤ 24) && s.data.toList.all okB
theorem name_all_drop (s : ByteArray) (k : Nat) (h : k < s.size) : (s.data.toList.drop k).all okB = (okB s[k] && (s.data.toList.drop (k + 1)).all okB) := by
  rw [List.drop_eq_getElem_cons (by simpa using h)]
  rfl
end Go.Proofs.YtflchbejjofppaaGreatDoor
/- Walks: names, by the program. -/
namespace Go.Proofs.YtflchbejjofppaaGreatDoor
open Go Go.Proofs Go.RowKit
theorem below_iter (w : World) (s : ByteArray) (p : Nat) : Below w.heap.size w (w.iter s p) := (Below.refl _ _).alloc (Nat.le_refl _) _
set_option maxHeartbeats 1000000 in
theorem isName69 (s : ByteArray) (w : World) (hs : s.size ≤ 9223372036854775807) : Calls Tryz.prog 59 #[.string s] w (Ret (.bool (isName s)) w) := by
  obtain ⟨R, hR⟩ : ∃ R, isName s = R := ⟨_, rfl⟩
  rw [hR]
  have HR := Lib.hid hR
  clear hR
  go_enter Tryz.func59, Tryz.ntmps59
  go_wp2_with fail
  go_loopw [4] (fun _ wr => ∃ k : Nat, k ≤ s.size ∧ wr = w.iter s k ∧ s.data.toList.all okB = (s.data.toList.drop k).all okB) (fun _ wr => s.size - wr.iterPos w.heap.size)
  case atStart => exact ⟨0, by omega, rfl, rfl⟩
  case round =>
    obtain ⟨k, hk, rfl, hrel⟩ := hrel
    have HL := Lib.hid hrel
    clear hrel
    by_cases hlt : k < s.size
    · have hd := Lib.hid (name_all_drop s k hlt)
      by_cases hok : okB s[k] = true
      · have HN : Hid (s.data.toList.all okB = (s.data.toList.drop (k + 1)).all okB) := by have h := HL.out; rw [hd.out, hok, Bool.true_and] at h; exact h
        have hok' : (97 ≤ (s[k].toNat : Int) ∧ (s[k].toNat : Int) ≤ 122) ∨ (65 ≤ (s[k].toNat : Int) ∧ (s[k].toNat : Int) ≤ 90) ∨ (48 ≤ (s[k].toNat : Int) ∧ (s[k].toNat : Int) ≤ 57) ∨ (s[k].toNat : Int) = 45 ∨ (s[k].toNat : Int) = 95 ∨ (s[k].toNat : Int) = 46 := by
          simp only [okB, okC, Bool.or_eq_true, Bool.and_eq_true, decide_eq_true_eq, beq_iff_eq] at hok; omega
        clear hok
        have hnx := fun ty => run_next_ascii (P := Tryz.prog) w s k ty hlt (by omega)
        generalize (s[k].toNat : Int) = c at *
        rcases hok' with ⟨h2, h3⟩ | ⟨h2, h3⟩ | ⟨h2, h3⟩ | h2 | h2 | h2
        all_goals go_wp2_with fail
        all_goals go_roundw
        all_goals first | exact ⟨k + 1, by omega, rfl, HN.out⟩ | (simp only [World.iterPos_iter]; omega)
      · have HF : Hid (s.data.toList.all okB = false) := by have h := HL.out; rw [hd.out, (Bool.not_eq_true _).mp hok, Bool.false_and] at h; exact h
        have hbad : ∃ (c : Int) (p : Nat), (123 ≤ c ∨ (91 ≤ c ∧ c ≤ 94) ∨ (58 ≤ c ∧ c ≤ 64) ∨ c = 47 ∨ c = 96 ∨ c ≤ 44) ∧ ∀ ty, (Instr.next (.pointer (some ⟨w.heap.size, 0, none⟩)) true ty).run Tryz.prog (w.iter s k) = .ok (.tuple #[.bool true, .int .i64 k, .int .i32 c]) (w.iter s p) := by
          by_cases ha : s[k].toNat < 128
          · refine ⟨(s[k].toNat : Int), k + 1, ?_, fun ty => run_next_ascii (P := Tryz.prog) w s k ty hlt ha⟩
            simp only [okB, okC, Bool.or_eq_true, Bool.and_eq_true, decide_eq_true_eq, beq_iff_eq] at hok
            omega
          · exact ⟨_, _, .inl (by have := (decode_high s k hlt (by omega)).1; omega), fun ty => run_next_any (P := Tryz.prog) w s k ty hlt⟩
        clear hok
        obtain ⟨c, p, hc, hnx⟩ := hbad
        have HRF : Hid (R = false) := by have h := HR.out; unfold isName at h; rw [HF.out, Bool.and_false] at h; exact h.symm
        rcases hc with h2 | ⟨h2, h3⟩ | ⟨h2, h3⟩ | h2 | h2 | h2
        all_goals go_wp2_with fail
        all_goals first | (go_ret; exact Ret.mk (congrArg Value.bool HRF.out.symm) (below_iter _ _ _)) | (exfalso; simp only [Bool.not_eq_false', decide_eq_true_eq, bne_eq_false_iff_eq] at *; omega)
    · obtain rfl : s.size = k := by omega
      have HA : Hid (s.data.toList.all okB = true) := by have h := HL.out; rw [List.drop_of_length_le (by simp)] at h; exact h
      have hnx := fun ty => run_next_end (P := Tryz.prog) w s s.size ty hlt
      go_wp2_with fail
      all_goals
        go_ret
        rw [← HR.out]
        refine Ret.mk (congrArg Value.bool ?_) (below_iter _ _ _)
        unfold isName
        rw [HA.out, Bool.and_true, Bool.eq_iff_iff]
        simp only [Bool.and_eq_true, decide_eq_true_eq, Bool.false_eq_true, false_iff]
        omega
end Go.Proofs.YtflchbejjofppaaGreatDoor
/- Books: how they are read; the errors of a book, by the reference. -/
namespace Go.Proofs.YtflchbejjofppaaGreatDoor
open Go Go.Proofs Go.RowKit
structure Tk where
  id : ByteArray
  fr : Int
  to : Int
  m : Rg
def Tk.enc (t : Tk) : List Value := [.string t.id, .int .i64 t.fr, .int .i64 t.to, .int .i64 t.m.lo, .int .i64 t.m.hi]
theorem Tk.enc_len (t : Tk) : t.enc.length = 5 := rfl
structure Bk where
  st : List Rg
  ts : List Tk
structure BkR (w : World) (B : Nat) (v1 v2 : Value) (b : Bk) : Prop where
  st : Sl Rg.enc 2 w B v1 b.st
  ts : Sl Tk.enc 5 w B v2 b.ts
  ids : ∀ t ∈ b.ts, t.id.size ≤ 9223372036854775807
theorem BkR.later {w w' : World} {v1 v2 : Value} {b : Bk} (h : BkR w w.heap.size v1 v2 b) (hb : Below w.heap.size w w') : BkR w' w'.heap.size v1 v2 b := ⟨h.st.later hb, h.ts.later hb, h.ids⟩
def badPl (n : Nat) (p : Int) : Bool := decide (p < -1) || decide ((n : Int) ≤ p)
def ckTk (b : Bk) (i : Nat) (t : Tk) : Int :=
  if isName t.id = false then 8 else if (b.ts.take i).any (fun x => x.id.toList == t.id.toList) then 9 else if badPl b.st.length t.fr || badPl b.st.length t.to then 10 else if t.fr = t.to then 1 else ckMass t.m
def ckTksL (b : Bk) : Nat → List Tk → Int
  | _, [] => 0
  | i, t :: l => if ckTk b i t = 0 then ckTksL b (i + 1) l else ckTk b i t
theorem ckTksL_drop (b : Bk) (k : Nat) (h : k < b.ts.length) : ckTksL b k (b.ts.drop k) = if ckTk b k b.ts[k] = 0 then ckTksL b (k + 1) (b.ts.drop (k + 1)) else ckTk b k b.ts[k] := by
  rw [List.drop_eq_getElem_cons h]; rfl
def ckRgs : List Rg → Int
  | [] => 0
  | r :: l => if ckRange r = 0 then ckRgs l else ckRange r
theorem ckRgs_drop (l : List Rg) (k : Nat) (h : k < l.length) : ckRgs (l.drop k) = if ckRange l[k] = 0 then ckRgs (l.drop (k + 1)) else ckRange l[k] := by
  rw [List.drop_eq_getElem_cons h]; rfl
def ckBook (b : Bk) : Int := if 32 < b.st.length then 5 else if ckRgs b.st ≠ 0 then ckRgs b.st else if 128 < b.ts.length then 5 else ckTksL b 0 b.ts
end Go.Proofs.YtflchbejjofppaaGreatDoor
/- A map to bools that a call makes, as the list of its keys that hold true. -/
namespace Go.Proofs.YtflchbejjofppaaGreatDoor
open Go Go.Proofs Go.RowKit Go.Maps
def SetM {κ : Type} [DecidableEq κ] (f : κ → Lit) (P : Program) (k e : TypeId) (w : World) (b : Nat) (L : List κ) : Prop :=
  ∃ D : DataW Unit, w.ownsMap P k (plainElem P e) b L.length D ∧ IsMap D ∧ ∀ x, D.atKey (f x) (.lit (.bool false)) = .lit (.bool (decide (x ∈ L)))
section
variable {κ : Type} [DecidableEq κ] {f : κ → Lit} {P : Program} {k e : TypeId} {w w' : World} {b : Nat} {L : List κ}
theorem SetM.kept {row : Option Nat} (h : SetM f P k e w b L) (hg : w.grownBy w' row) (hne : some b ≠ row) : SetM f P k e w' b L :=
  let ⟨D, h1, h2⟩ := h; ⟨D, h1.kept hg hne, h2⟩
theorem SetM.later (h : SetM f P k e w b L) (hb : Below w.heap.size w w') : SetM f P k e w' b L :=
  h.kept (row := none) ⟨hb.os, hb.tape, hb.output, hb.size, fun k hk _ => hb.block k hk⟩ (by simp)
theorem SetM.alloc (h : SetM f P k e w b L) (o : Obj) : SetM f P k e (w.alloc o) b L := h.later ((Below.refl _ _).alloc (Nat.le_refl _) _)
theorem SetM.lt (h : SetM f P k e w b L) : b < w.heap.size := let ⟨_, h1, _⟩ := h; h1.lt
theorem SetM.made (f : κ → Lit) (P : Program) (k e : TypeId) (w : World) : SetM f P k e (w.alloc (.map #[] 0)) w.heap.size [] :=
  ⟨.map [], World.ownsMap_made w P k _, ⟨[], rfl⟩, fun kl => by simp [DataW.atKey]⟩
theorem SetM.look {t : TypeId} (h : SetM f P k e w b L) (K : Keyed P k) (ht : P.underlying t = some (.map k e)) (he : P.underlying e = some .bool) (hz : (zeroValue e).run P w = .ok (.bool false) w) {key : Value} {x : κ} (hkey : keyOf P k key = some (f x)) :
    (Instr.lookup t (.map (some b)) key false).run P w = .ok (.bool (decide (x ∈ L))) w := by
  obtain ⟨D, h1, h2, h3⟩ := h
  obtain ⟨v, ps, hrun, hv⟩ := h1.lookup K ht hz (plainElem_bool (H := Unit) he false) hkey
  rw [h3 x] at hv
  have : v = .bool (decide (x ∈ L)) := by
    unfold plainElem at hv
    rw [he] at hv
    cases v <;> simp at hv
    rw [hv.1]
  rw [← this]; exact hrun
theorem wpList_look_set {t : TypeId} {ops : Array Oper} {rest : List Oper} {o : Oper} {a : Act} {Q : Exit → Act → World → Prop} (h : SetM f P k e w b L) (K : Keyed P k) (ht : P.underlying t = some (.map k e)) (he : P.underlying e = some .bool) (hz : (zeroValue e).run P w = .ok (.bool false) w)
    {key : Value} {x : κ} (hkey : keyOf P k key = some (f x)) (hg : o.guard = none) (m y : Operand) (hop : o.op = Op.lookup t m y false) (hm : a.eval m = .map (some b)) (hx : a.eval y = key)
    (hK : wpList P ops Q rest (a.put o.dst (.bool (decide (x ∈ L)))) w) : wpList P ops Q (o :: rest) a w := by
  refine wpList_plain hg fun K' hK' => ?_
  have hrun := h.look K ht he hz hkey
  unfold Oper.wp
  simp [execOp, hop, hm, hx, hrun, Result.andThen]
  exact hK' _ _ (by simpa using hK)
theorem wpList_put_set {t : TypeId} {ops : Array Oper} {rest : List Oper} {o : Oper} {a : Act} {Q : Exit → Act → World → Prop} (hf : ∀ x y, f x = f y → x = y) (hkl : ∀ x, WideAt.IsKeyLit (f x)) (h : SetM f P k e w b L) (K : Keyed P k) (ht : P.underlying t = some (.map k e)) (he : P.underlying e = some .bool)
    {key : Value} {x : κ} (hkey : keyOf P k key = some (f x)) (hn : L.length < maxLen) (hg : o.guard = none) (m y v : Operand) (hop : o.op = Op.mapUpdate t m y v) (hm : a.eval m = .map (some b)) (hx : a.eval y = key) (hv : a.eval v = .bool true)
    (hK : ∀ w', SetM f P k e w' b (x :: L) → w.grownBy w' (some b) → wpList P ops Q rest (a.put o.dst undef) w') : wpList P ops Q (o :: rest) a w := by
  obtain ⟨D, h1, h2, h3⟩ := h
  refine wpList_mapUpdate_own w hg m y v t hop k e K ht _ b L.length D hm h1 hn key (.bool true) (f x) hx hv hkey _ [] (plainElem_bool (H := Unit) he true) fun w' ho hgr => hK w' ⟨_, ho, ho.isMap, fun z => ?_⟩ hgr
  by_cases hk : z = x
  · subst hk
    rw [atKey_put_same h2 (hkl z)]
    simp
  · rw [atKey_put_other (fun h => hk (hf _ _ h)), h3 z]
    simp [hk]
end
def strLit (s : List UInt8) : Lit := .string s
theorem strLit_inj (x y : List UInt8) (h : strLit x = strLit y) : x = y := by unfold strLit at h; simpa using h
end Go.Proofs.YtflchbejjofppaaGreatDoor
/- Walks: errors of numbers and of books, by the program. -/
namespace Go.Proofs.YtflchbejjofppaaGreatDoor
open Go Go.Proofs Go.RowKit Go.Maps
theorem strLit_key (x : List UInt8) : WideAt.IsKeyLit (strLit x) := trivial
theorem lawStr : Keyed Tryz.prog 9 := string_keyed Tryz.underlying9
end Go.Proofs.YtflchbejjofppaaGreatDoor
