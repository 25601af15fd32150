/- Lemmas on the way to the law TopScales (part 11): WNy WNz WOa WOb WOc WOd WOe WOf -/
import Derived.Test.YtflchbejjofppaaGreatDoorTopScalesP10
import Derived.Test.YtflchbejjofppaaGreatDoorTopScalesP08
set_option linter.unusedVariables false
set_option linter.unusedSimpArgs false

/- More, or less, through one arc: plainly. -/
namespace Go.Proofs.YtflchbejjofppaaGreatDoor
open Go Go.Proofs Go.RowKit
structure PushR (l l' : List Ac) (i : Nat) (high : Bool) : Prop where
  shape : shp l' = shp l
  fits : Fits l'
  bal : ∀ x, exc x l' = exc x l
  ext : ∀ n, Ends n l → Circ n l → ∀ l2, shp l2 = shp l → Circ n l2 → ∀ a a2, l'[i]? = some a → l2[i]? = some a2 → if high then a2.fl ≤ a.fl else a.fl ≤ a2.fl
theorem PushR.circ {l l' : List Ac} {i n : Nat} {high : Bool} (h : PushR l l' i high) (hc : Circ n l) : Circ n l' := ⟨h.fits, fun v hv => (h.bal v).trans (hc.bal v hv)⟩
theorem closed_congr {R : Nat → Bool} {i : Nat} {l l' : List Ac} (hl : l.length = l'.length) (h : ∀ j, j ≠ i → l'[j]? = l[j]?) (hC : Closed R i l) : Closed R i l' := fun j hj hne => by
  have h1 := h j (by omega)
  rw [List.getElem?_eq_getElem hj, List.getElem?_eq_getElem (by omega : j < l.length)] at h1
  rw [Option.some.inj h1]
  exact hC j (by omega) hne
theorem pushR_of {l l1 : List Ac} {i : Nat} {high : Bool} {m most : Int} {R : Nat → Bool} {a : Ac} (hi : l[i]? = some a) (hf : Fits l)
    (hfl : Flow l l1 (if high then a.to else a.fr) (if high then a.fr else a.to) i m) (hmost : most = if high then a.hi - a.fl else a.fl - a.lo) (h0 : 0 ≤ m) (h1 : m ≤ most)
    (hor : m = most ∨ (Closed R i l1 ∧ R (if high then a.to else a.fr) = true ∧ R (if high then a.fr else a.to) = false)) : PushR l (bump l1 (i, high) m) i high := by
  have hl1i : l1[i]? = some a := (hfl.wo i rfl).trans hi
  have hilt : i < l1.length := (List.getElem?_eq_some_iff.1 hl1i).1
  have hb : (bump l1 (i, high) m)[i]? = some { a with fl := if high then a.fl + m else a.fl - m } := by
    unfold bump; rw [List.getElem?_modify, hl1i]; simp
  have hsh : shp (bump l1 (i, high) m) = shp l := (shp_bump _ _ _).trans hfl.shape
  have hfit : Fits (bump l1 (i, high) m) := fits_bump (hfl.fits hf) h0 (by unfold roomOf; simp only [hl1i]; rw [← hmost]; exact h1)
  have hbal : ∀ x, exc x (bump l1 (i, high) m) = exc x l := fun x => by
    rw [exc_bump l1 (i, high) m x hilt, hfl.ex x]
    unfold headOf tailOf
    simp only [hl1i]
    cases high <;> simp <;> omega
  refine ⟨hsh, hfit, hbal, fun n hE hc l2 hs2 hc2 b b2 hbi hb2 => ?_⟩
  rw [hb] at hbi
  obtain rfl := Option.some.inj hbi
  have hi2 := (List.getElem?_eq_some_iff.1 hb2).1
  have hib := (List.getElem?_eq_some_iff.1 hb).1
  have e2 : l2[i] = b2 := (List.getElem?_eq_some_iff.1 hb2).2
  have e1 := (List.getElem?_eq_some_iff.1 hb).2
  have hsh2 : shp (bump l1 (i, high) m) = shp l2 := hsh.trans hs2.symm
  have hbare := bare_eq (shp_get hsh2 i hib hi2)
  rw [e1, e2] at hbare
  obtain ⟨g1, g2, g3, g4⟩ := hbare
  dsimp only at g1 g2 g3 g4
  have hfit2 := hc2.fits b2 (by rw [← e2]; exact List.getElem_mem hi2)
  have hcb : Circ n (bump l1 (i, high) m) := ⟨hfit, fun v hv => (hbal v).trans (hc.bal v hv)⟩
  have hEb := shp_ends hsh.symm hE
  rcases hor with rfl | ⟨hC, hu, ht⟩
  · subst hmost
    cases high
    · simp only [Bool.false_eq_true, if_false] at *
      omega
    · simp only [if_true] at *
      omega
  · have hC2 : Closed R i (bump l1 (i, high) m) := closed_congr (bump_length _ _ _).symm (fun j hj => bump_get_other _ _ _ hj) hC
    cases high
    · simp only [Bool.false_eq_true, if_false] at *
      have := least_of_closed hsh2 hEb hcb hc2 hib hi2 hC2 (by rw [e1]; exact ht) (by rw [e1]; exact hu)
      rw [e1, e2] at this
      exact this
    · simp only [if_true] at *
      have := most_of_closed hsh2 hEb hcb hc2 hib hi2 hC2 (by rw [e1]; exact hu) (by rw [e1]; exact ht)
      rw [e1, e2] at this
      exact this
theorem NetR.setFlow {w : World} {B nb : Nat} {v : Value} {l : List Ac} {tk pl : Nat} {rc : List Bool} (h : NetR w B nb v l tk pl rc) (s : St) (m : Int) (hs : s.1 < l.length) {g : Nat} (hv : v.ownBlock = some g) (x : Int) (hx : x = if s.2 then l[s.1].fl + m else l[s.1].fl - m) :
    NetR (w.setCell ⟨g, s.1 * 5 + 4, none⟩ (.int .i64 x)) B nb v (bump l s m) tk pl rc := by
  have hne : g ≠ nb := fun e => h.ne (by rw [hv, e])
  obtain ⟨g', cap, e, hb1, hb2⟩ := h.own.form (by omega)
  have eg : g' = g := by rw [e] at hv; simpa [Value.ownBlock] using hv
  subst eg
  have hown := h.own
  rw [e] at hown
  have hset := hown.set Ac.encW_len s.1 hs 4 (by omega) (.int .i64 x) { l[s.1] with fl := if s.2 then l[s.1].fl + m else l[s.1].fl - m } (by rw [hx]; rfl)
  rw [← bump_set l s m hs, ← e] at hset
  exact ⟨h.box.other _ (by dsimp only; omega), hset, h.ne, h.n36⟩
def PushPost (w : World) (B nb : Nat) (v : Value) (l : List Ac) (tk pl i : Nat) (high : Bool) (e : Ending) (w' : World) : Prop :=
  ∃ l' rc', e = .returned (.tuple #[]) ∧ NetR w' B nb v l' tk pl rc' ∧ Kept (Mine nb v) w w' ∧ PushR l l' i high
end Go.Proofs.YtflchbejjofppaaGreatDoor
/- Walks: push. -/
namespace Go.Proofs.YtflchbejjofppaaGreatDoor
open Go Go.Proofs Go.RowKit
set_option maxRecDepth 100000 in
set_option maxHeartbeats 1000000 in
theorem push80 (B nb : Nat) (v : Value) (l : List Ac) (tk pl : Nat) (rc : List Bool) (i : Nat) (high : Bool) (w : World) (hnet : NetR w B nb v l tk pl rc) (hl : l.length ≤ 1000) (hs : SmallS l 1000000000000) (hf : Fits l) (hE : Ends 36 l)
    (hi : i < l.length) (hne : l[i].fr ≠ l[i].to) :
    Calls Tryz.prog 47 #[.pointer (some ⟨nb, 0, none⟩), .int .i64 i, .bool high] w (PushPost w B nb v l tk pl i high) := by
  obtain ⟨g, cap, rfl, hg, hgs⟩ := hnet.own.form (by omega)
  have c0 := hnet.toA.c0
  have n0 := hnet.box.lt
  obtain ⟨e0, e1, e2, e3, e4⟩ := (hnet.own.at Ac.encW_len i hi).c5
  have hsm := hs l[i] (List.getElem_mem hi)
  have hfi := hf l[i] (List.getElem_mem hi)
  have hEi := hE l[i] (List.getElem_mem hi)
  have HI := Lib.hid (List.getElem?_eq_getElem hi)
  generalize hA : l[i] = a at *
  have HA := Lib.hid hA
  clear hA
  obtain ⟨fr, to, lo, hi', fl⟩ := a
  dsimp only at *
  have HL := Lib.hid hl
  have HNET := Lib.hid hnet
  have HS := Lib.hid hs
  have HF := Lib.hid hf
  have HE := Lib.hid hE
  clear hnet hs hf hE hl
  have HK := Lib.hid (show ∀ (m2 : Int) (u t : Nat) (Z : Int → List Bool → List Ac → Prop) (W' : World), (W' = { w with drawn := w.drawn + 1 } ∨ ∃ x m l1 rc1, x = Value.int .i64 m ∧ NetR W' B nb (.slice (some ⟨g, 0, none⟩) l.length cap) l1 tk pl rc1 ∧ Kept (Mine nb (.slice (some ⟨g, 0, none⟩) l.length cap)) w W' ∧ Flow l l1 u t i m ∧ 0 ≤ m ∧ m ≤ m2 ∧ Z m rc1 l1) → ∃ X : Keep w (fun b o => b = g ∧ i * 5 ≤ o ∧ o < i * 5 + 5), X.w = W' from by
    rintro m2 u t Z W' (rfl | ⟨x, m, l1, rc1, _, hn, _, hfl, _⟩)
    · exact ⟨⟨{ w with drawn := w.drawn + 1 }, fun _ _ _ => rfl⟩, rfl⟩
    · refine ⟨⟨W', ?_⟩, rfl⟩
      rintro b o ⟨rfl, h1, h2⟩
      have hx : l1[i]? = l[i]? := hfl.wo i rfl
      have hi1 : i < l1.length := by rw [shp_length hfl.shape]; exact hi
      rw [List.getElem?_eq_getElem hi1, List.getElem?_eq_getElem hi] at hx
      have hno := hn.own
      rw [← shp_length hfl.shape] at hno
      obtain ⟨d0, d1, d2, d3, d4⟩ := (hno.at Ac.encW_len i hi1).c5
      rw [Option.some.inj hx, HA.out] at d0 d1 d2 d3 d4
      obtain ⟨j, rfl⟩ : ∃ j, o = i * 5 + j := ⟨o - i * 5, by omega⟩
      have hj : j < 5 := by omega
      match j, hj with
      | 0, _ => exact d0.trans e0.symm
      | 1, _ => exact d1.trans e1.symm
      | 2, _ => exact d2.trans e2.symm
      | 3, _ => exact d3.trans e3.symm
      | 4, _ => exact d4.trans e4.symm)
  have HFN := Lib.hid (show ∀ (high : Bool) (m : Int) (l1 : List Ac) (rc1 : List Bool) (w2 : World), NetR w2 B nb (.slice (some ⟨g, 0, none⟩) l.length cap) l1 tk pl rc1 → Kept (Mine nb (.slice (some ⟨g, 0, none⟩) l.length cap)) w w2 → Flow l l1 (if high then to else fr) (if high then fr else to) i m → 0 ≤ m →
      m ≤ (if high then hi' - fl else fl - lo) → (m = (if high then hi' - fl else fl - lo) ∨ (Closed (fun x => rc1.getD x false) i l1 ∧ rc1.getD (if high then to else fr) false = true ∧ rc1.getD (if high then fr else to) false = false)) →
      PushPost w B nb (.slice (some ⟨g, 0, none⟩) l.length cap) l tk pl i high (.returned (.tuple #[])) (w2.setCell ⟨g, i * 5 + 4, none⟩ (.int .i64 (if high then fl + m else fl - m))) from by
    intro high m l1 rc1 w2 hn hk hfl h0 h1 hor
    have hi1 : i < l1.length := by rw [shp_length hfl.shape]; exact hi
    have hx : l1[i]? = l[i]? := hfl.wo i rfl
    rw [List.getElem?_eq_getElem hi1, List.getElem?_eq_getElem hi] at hx
    refine ⟨_, rc1, rfl, hn.setFlow (i, high) m hi1 rfl _ (by dsimp only; rw [Option.some.inj hx, HA.out]), hk.set _ (.inl (.inr rfl)), pushR_of (a := ⟨fr, to, lo, hi', fl⟩) ((List.getElem?_eq_getElem hi).trans (by rw [HA.out])) HF.out hfl rfl h0 h1 hor⟩)
  have HGN := Lib.hid (show ∀ (w2 : World) (l1 : List Ac) (rc1 : List Bool) (u t : Nat) (m : Int), NetR w2 B nb (.slice (some ⟨g, 0, none⟩) l.length cap) l1 tk pl rc1 → Flow l l1 u t i m → w2.cell? ⟨g, i * 5 + 4, none⟩ = some (.int .i64 fl) ∧ w2.frozen? ⟨g, i * 5 + 4, none⟩ = false from by
    intro w2 l1 rc1 u t m hn hfl
    have hx : l1[i]? = l[i]? := hfl.wo i rfl
    have hi1 : i < l1.length := by rw [shp_length hfl.shape]; exact hi
    rw [List.getElem?_eq_getElem hi1, List.getElem?_eq_getElem hi] at hx
    have hno := hn.own
    rw [← shp_length hfl.shape] at hno
    obtain ⟨d0, d1, d2, d3, d4⟩ := (hno.at Ac.encW_len i hi1).c5
    rw [Option.some.inj hx, HA.out] at d4
    exact ⟨d4, hno.frozen _⟩)
  go_enter Tryz.func47, Tryz.ntmps47
  cases high
  · go_wp2_with fail
    refine wp_region_callflow 25 24 _ 60 (fun u w' => ∃ m l1 rc1, u = .int .i64 m ∧ NetR w' B nb (.slice (some ⟨g, 0, none⟩) l.length cap) l1 tk pl rc1 ∧ Kept (Mine nb (.slice (some ⟨g, 0, none⟩) l.length cap)) w w' ∧ Flow l l1 fr to i m ∧ 0 ≤ m ∧ m ≤ fl - lo ∧
      (m = fl - lo ∨ (Closed (fun x => rc1.getD x false) i l1 ∧ rc1.getD fr false = true ∧ rc1.getD to false = false))) (by kernel_rfl) (by kernel_rfl) rfl ?_
    apply Exists.intro
    refine ⟨fun W' hW' => ?_, ?_⟩
    · obtain ⟨X, hX⟩ := HK.out (fl - lo) fr to (fun m rc1 l1 => m = fl - lo ∨ (Closed (fun x => rc1.getD x false) i l1 ∧ rc1.getD fr false = true ∧ rc1.getD to false = false)) W' hW'
      subst hX
      rw [← keep1_class X]
      simp only [headsOf, List.take_succ_cons, List.drop_succ_cons, List.take_zero, List.drop_zero, Nat.reduceSub, List.cons_append, List.nil_append]
      repeat go_big_quiet_step (fail)
      exact wpQuiet_nil rfl
    apply Exists.intro
    refine ⟨?_, ?_, ?_⟩
    · go_simp
      first | rfl | (go_ints; rfl)
    · refine (flood90 B nb (.slice (some ⟨g, 0, none⟩) l.length cap) l tk pl rc fr to (fl - lo) i { w with drawn := w.drawn + 1 } (HNET.out.later ⟨rfl, rfl, rfl, Nat.le_refl _, fun _ _ => rfl⟩) HL.out HS.out HF.out HE.out hEi.1 hEi.2 hne (by omega) (by omega)).mono ?_
      rintro e w2 ⟨m, l1, rc1, rfl, hn, hk, hfl, h0, h1, hor⟩
      exact ⟨_, rfl, m, l1, rc1, rfl, hn, (Kept.trans (Kept.drew (Kept.refl _ _)) hk), hfl, h0, h1, hor⟩
    · rintro u w2 ⟨m, l1, rc1, rfl, hn, hk, hfl, h0, h1, hor⟩
      have HFIN := HFN.out false m l1 rc1 w2 hn hk hfl h0 h1 hor
      obtain ⟨d4, z4⟩ := HGN.out w2 l1 rc1 _ _ m hn hfl
      have HFX := Lib.hid HFIN
      clear HFIN
      clear hn hk hfl hor
      simp only [Act.put, List.setIfInBounds_toArray, List.set_cons_succ, List.set_cons_zero, List.drop_succ_cons, List.drop_zero]
      go_wp2_with fail
      exact bodyPost_end (results_none rfl _ _ _) rfl HFX.out
  · go_wp2_with fail
    refine wp_region_callflow 25 24 _ 60 (fun u w' => ∃ m l1 rc1, u = .int .i64 m ∧ NetR w' B nb (.slice (some ⟨g, 0, none⟩) l.length cap) l1 tk pl rc1 ∧ Kept (Mine nb (.slice (some ⟨g, 0, none⟩) l.length cap)) w w' ∧ Flow l l1 to fr i m ∧ 0 ≤ m ∧ m ≤ hi' - fl ∧
      (m = hi' - fl ∨ (Closed (fun x => rc1.getD x false) i l1 ∧ rc1.getD to false = true ∧ rc1.getD fr false = false))) (by kernel_rfl) (by kernel_rfl) rfl ?_
    apply Exists.intro
    refine ⟨fun W' hW' => ?_, ?_⟩
    · obtain ⟨X, hX⟩ := HK.out (hi' - fl) to fr (fun m rc1 l1 => m = hi' - fl ∨ (Closed (fun x => rc1.getD x false) i l1 ∧ rc1.getD to false = true ∧ rc1.getD fr false = false)) W' hW'
      subst hX
      rw [← keep1_class X]
      simp only [headsOf, List.take_succ_cons, List.drop_succ_cons, List.take_zero, List.drop_zero, Nat.reduceSub, List.cons_append, List.nil_append]
      repeat go_big_quiet_step (fail)
      exact wpQuiet_nil rfl
    apply Exists.intro
    refine ⟨?_, ?_, ?_⟩
    · go_simp
      first | rfl | (go_ints; rfl)
    · refine (flood90 B nb (.slice (some ⟨g, 0, none⟩) l.length cap) l tk pl rc to fr (hi' - fl) i { w with drawn := w.drawn + 1 } (HNET.out.later ⟨rfl, rfl, rfl, Nat.le_refl _, fun _ _ => rfl⟩) HL.out HS.out HF.out HE.out hEi.2 hEi.1 (Ne.symm hne) (by omega) (by omega)).mono ?_
      rintro e w2 ⟨m, l1, rc1, rfl, hn, hk, hfl, h0, h1, hor⟩
      exact ⟨_, rfl, m, l1, rc1, rfl, hn, (Kept.trans (Kept.drew (Kept.refl _ _)) hk), hfl, h0, h1, hor⟩
    · rintro u w2 ⟨m, l1, rc1, rfl, hn, hk, hfl, h0, h1, hor⟩
      have HFIN := HFN.out true m l1 rc1 w2 hn hk hfl h0 h1 hor
      obtain ⟨d4, z4⟩ := HGN.out w2 l1 rc1 _ _ m hn hfl
      have HFX := Lib.hid HFIN
      clear HFIN
      clear hn hk hfl hor
      simp only [Act.put, List.setIfInBounds_toArray, List.set_cons_succ, List.set_cons_zero, List.drop_succ_cons, List.drop_zero]
      go_wp2_with fail
      exact bodyPost_end (results_none rfl _ _ _) rfl HFX.out
end Go.Proofs.YtflchbejjofppaaGreatDoor
/- Walks: extent. -/
namespace Go.Proofs.YtflchbejjofppaaGreatDoor
open Go Go.Proofs Go.RowKit
def Extent (n : Nat) (l : List Ac) (i : Nat) (lo hi : Int) : Prop :=
  (∃ l2 a, shp l2 = shp l ∧ Circ n l2 ∧ l2[i]? = some a ∧ a.fl = lo) ∧ (∃ l2 a, shp l2 = shp l ∧ Circ n l2 ∧ l2[i]? = some a ∧ a.fl = hi) ∧
    ∀ l2 a, shp l2 = shp l → Circ n l2 → l2[i]? = some a → lo ≤ a.fl ∧ a.fl ≤ hi
theorem extent_of {l l1 l2 : List Ac} {i n : Nat} {a1 a2 : Ac} (h1 : PushR l l1 i false) (h2 : PushR l1 l2 i true) (hE : Ends n l) (hc : Circ n l) (e1 : l1[i]? = some a1) (e2 : l2[i]? = some a2) : Extent n l i a1.fl a2.fl := by
  have hc1 := h1.circ hc
  refine ⟨⟨l1, a1, h1.shape, hc1, e1, rfl⟩, ⟨l2, a2, h2.shape.trans h1.shape, h2.circ hc1, e2, rfl⟩, fun l3 a3 hs3 hc3 e3 => ?_⟩
  have k1 := h1.ext n hE hc l3 hs3 hc3 a1 a3 e1 e3
  have k2 := h2.ext n (shp_ends h1.shape.symm hE) hc1 l3 (hs3.trans h1.shape.symm) hc3 a2 a3 e2 e3
  simp only [Bool.false_eq_true, if_false, if_true] at k1 k2
  exact ⟨k1, k2⟩
theorem NetR.other {w : World} {B nb : Nat} {v : Value} {l : List Ac} {tk pl : Nat} {rc : List Bool} (h : NetR w B nb v l tk pl rc) {p : Addr} (u : Value) (h1 : p.block ≠ nb) (h2 : v.ownBlock ≠ some p.block) : NetR (w.setCell p u) B nb v l tk pl rc :=
  ⟨h.box.other _ h1, h.own.other _ h2, h.ne, h.n36⟩
def ExtPost (w : World) (B nb : Nat) (v : Value) (l : List Ac) (tk pl i : Nat) (e : Ending) (w' : World) : Prop :=
  ∃ l' rc' lo hi, e = .returned (.agg #[.int .i64 lo, .int .i64 hi]) ∧ NetR w' B nb v l' tk pl rc' ∧ Kept (Mine nb v) w w' ∧ shp l' = shp l ∧ Fits l' ∧ ∀ n, Ends n l → Circ n l → Circ n l' ∧ Extent n l i lo hi
theorem Box.keeps {S : Nat → Prop} {w w' : World} {k : Nat} {e : TypeId} {vs : List Value} (h : Box w k e vs) (hk : Kept S w w') (hn : ¬ S k) : Box w' k e vs := (hk.block k h.lt hn).trans h
set_option maxRecDepth 100000 in
set_option maxHeartbeats 1000000 in
theorem extent79 (B nb : Nat) (v : Value) (l : List Ac) (tk pl : Nat) (rc : List Bool) (i : Nat) (w : World) (hnet : NetR w B nb v l tk pl rc) (hl : l.length ≤ 1000) (hs : SmallS l 1000000000000) (hf : Fits l) (hE : Ends 36 l)
    (hi : i < l.length) (hne : l[i].fr ≠ l[i].to) :
    Calls Tryz.prog 32 #[.pointer (some ⟨nb, 0, none⟩), .int .i64 i] w (ExtPost w B nb v l tk pl i) := by
  obtain ⟨g, cap, rfl, hg, hgs⟩ := hnet.own.form (by omega)
  have n0 := hnet.box.lt
  have HNET := Lib.hid hnet
  have HL := Lib.hid hl
  have HS := Lib.hid hs
  have HF := Lib.hid hf
  have HE := Lib.hid hE
  have HNE := Lib.hid hne
  clear hnet hs hf hE hne
  have HAT := Lib.hid (show ∀ (w2 : World) (l1 : List Ac) (rc1 : List Bool), NetR w2 B nb (.slice (some ⟨g, 0, none⟩) l.length cap) l1 tk pl rc1 → shp l1 = shp l → ∃ a, l1[i]? = some a ∧ w2.cell? ⟨nb, 0, none⟩ = some (.slice (some ⟨g, 0, none⟩) l.length cap) ∧ w2.cell? ⟨g, i * 5 + 4, none⟩ = some (.int .i64 a.fl) from by
    intro w2 l1 rc1 hn hsh
    have hi1 : i < l1.length := by rw [shp_length hsh]; exact hi
    have hno := hn.own
    rw [← shp_length hsh] at hno
    obtain ⟨d0, d1, d2, d3, d4⟩ := (hno.at Ac.encW_len i hi1).c5
    exact ⟨_, List.getElem?_eq_getElem hi1, hn.toA.c0, d4⟩)
  have HP := Lib.hid (show ∀ (high : Bool) (w2 : World) (l1 : List Ac) (rc1 : List Bool), NetR w2 B nb (.slice (some ⟨g, 0, none⟩) l.length cap) l1 tk pl rc1 → shp l1 = shp l → Fits l1 →
      Calls Tryz.prog 47 #[.pointer (some ⟨nb, 0, none⟩), .int .i64 i, .bool high] w2 (PushPost w2 B nb (.slice (some ⟨g, 0, none⟩) l.length cap) l1 tk pl i high) from by
    intro high w2 l1 rc1 hn hsh hf1
    have hi1 : i < l1.length := by rw [shp_length hsh]; exact hi
    have hb := bare_eq (shp_get hsh i hi1 hi)
    exact push80 B nb _ l1 tk pl rc1 i high w2 hn (by rw [shp_length hsh]; exact HL.out) (HS.out.shp hsh) hf1 (shp_ends hsh.symm HE.out) hi1 (by rw [hb.1, hb.2.1]; exact HNE.out))
  go_enter Tryz.func32, Tryz.ntmps32
  go_wp2_with fail
  refine (HP.out false _ l rc (HNET.out.alloc _) rfl HF.out).mono ?_
  rintro e w1 ⟨l1, rc1, rfl, hn1, hk1, hp1⟩
  have hx1 := (Box.new w #[.int .i64 0, .int .i64 0] 34).keeps hk1 (by
    rintro (h | h)
    · omega
    · have h2 : g = w.heap.size := Option.some.inj h
      omega)
  have hkk1 := (Kept.refl (Mine nb (.slice (some ⟨g, 0, none⟩) l.length cap)) w).alloc (.cells #[.int .i64 0, .int .i64 0] 34) |>.trans hk1
  obtain ⟨a1, ea1, c0, d4⟩ := HAT.out w1 l1 rc1 hn1 hp1.shape
  have HP1 := Lib.hid hp1
  have HN1 := Lib.hid hn1
  have HK1 := Lib.hid hkk1
  have HEA1 := Lib.hid ea1
  clear hn1 hk1 hp1 hkk1 ea1
  go_wp2_with fail
  refine (HP.out true _ l1 rc1 HN1.out HP1.out.shape HP1.out.fits).mono ?_
  rintro e w2 ⟨l2, rc2, rfl, hn2, hk2, hp2⟩
  have hx2 := hx1.keeps hk2 (by
    rintro (h | h)
    · omega
    · have h2 : g = w.heap.size := Option.some.inj h
      omega)
  clear c0 d4
  obtain ⟨a2, ea2, c0, d4⟩ := HAT.out w2 l2 rc2 hn2 (hp2.shape.trans HP1.out.shape)
  have x0 := hx2.cell 0
  have x1 := hx2.cell 1
  have y0 := hx2.frozen 0
  have y1 := hx2.frozen 1
  have HN2 := Lib.hid hn2
  have HP2 := Lib.hid hp2
  have HK2 := Lib.hid (HK1.out.trans hk2)
  have HEA2 := Lib.hid ea2
  clear hn2 hp2 hk2 ea2
  simp only [List.getElem?_cons_zero, List.getElem?_cons_succ] at x0 x1
  go_wp2_with fail
  have hx3 := (hx2.set 0 (.int .i64 a1.fl)).set 1 (.int .i64 a2.fl)
  have hn3 := (HN2.out.other (p := ⟨w.heap.size, 0, none⟩) (.int .i64 a1.fl) (by dsimp only; omega) (by intro h; have h2 : g = w.heap.size := Option.some.inj h; omega)).other (p := ⟨w.heap.size, 1, none⟩) (.int .i64 a2.fl) (by dsimp only; omega) (by intro h; have h2 : g = w.heap.size := Option.some.inj h; omega)
  have hk3 := (HK2.out.set (p := ⟨w.heap.size, 0, none⟩) (.int .i64 a1.fl) (.inr (Nat.le_refl _))).set (p := ⟨w.heap.size, 1, none⟩) (.int .i64 a2.fl) (.inr (Nat.le_refl _))
  clear x0 x1
  have x0 := hx3.cell 0
  have x1 := hx3.cell 1
  simp only [List.set_cons_zero, List.set_cons_succ, List.getElem?_cons_zero, List.getElem?_cons_succ] at x0 x1
  generalize (w2.setCell ⟨w.heap.size, 0, none⟩ (.int .i64 a1.fl)).setCell ⟨w.heap.size, 1, none⟩ (.int .i64 a2.fl) = w3 at *
  refine bodyPost_ret (v := .agg #[.int .i64 a1.fl, .int .i64 a2.fl]) (by simp [results, Tryz.results32, go_sem, *]) rfl ?_
  exact ⟨l2, rc2, a1.fl, a2.fl, rfl, hn3, hk3, HP2.out.shape.trans HP1.out.shape, HP2.out.fits, fun n hE2 hc => ⟨HP2.out.circ (HP1.out.circ hc), extent_of HP1.out HP2.out hE2 hc HEA1.out HEA2.out⟩⟩
end Go.Proofs.YtflchbejjofppaaGreatDoor
/- Walks: weigh.IsConsistent and settled. -/
namespace Go.Proofs.YtflchbejjofppaaGreatDoor
open Go Go.Proofs Go.RowKit
def Con (b : Bk) : Prop := ∃ l, shp l = shp (arcsOf b) ∧ Circ (b.st.length + 1) l
theorem settle_con {w w' : World} {b : Bk} {e : Ending} (hok : OkBk b) (h : SettlePost w b e w') :
    ∃ ok nb v l rc, e = .returned (.tuple #[.pointer (some ⟨nb, 0, none⟩), .bool ok]) ∧ NetR w' w.heap.size nb v l b.ts.length b.st.length rc ∧ Below w.heap.size w w' ∧ w.heap.size ≤ nb ∧ shp l = shp (arcsOf b) ∧ Fits l ∧
      (ok = true ↔ Con b) ∧ (ok = true → Circ (b.st.length + 1) l) ∧ (ok = false → 0 < cutv (fun x => rc.getD x false) (arcsOf b)) := by
  obtain ⟨ok, nb, v, l, rc, h1, h2, h3, h4, h5, h6, h7, h8⟩ := h
  refine ⟨ok, nb, v, l, rc, h1, h2, h3, h4, h5, h6, ⟨fun h => ⟨l, h5, h7 h⟩, fun ⟨l2, hs2, hc2⟩ => ?_⟩, h7, h8⟩
  cases ok with
  | true => rfl
  | false => exact absurd hc2 (no_circ hs2 (arcs_ends hok) (h8 rfl))
def SettledPost (w : World) (b : Bk) (e : Ending) (w' : World) : Prop :=
  Below w.heap.size w w' ∧ ((ckBook b ≠ 0 ∧ e = .returned (.tuple #[.pointer none, .int .i64 (ckBook b)])) ∨ (ckBook b = 0 ∧ ¬ Con b ∧ e = .returned (.tuple #[.pointer none, .int .i64 15])) ∨
    (ckBook b = 0 ∧ Con b ∧ ∃ nb v l rc, e = .returned (.tuple #[.pointer (some ⟨nb, 0, none⟩), .int .i64 0]) ∧ NetR w' w.heap.size nb v l b.ts.length b.st.length rc ∧ w.heap.size ≤ nb ∧ shp l = shp (arcsOf b) ∧ Circ (b.st.length + 1) l))
theorem Own.lower {α : Type} {f : α → List Value} {sz : Nat} {e : TypeId} {w : World} {base base' : Nat} {v : Value} {l : List α} (h : Own f sz e w base v l) (hB : base' ≤ base) : Own f sz e w base' v l := by
  obtain ⟨h1, h2⟩ := h
  refine ⟨h1, ?_⟩
  rcases h2 with h2 | ⟨g, cap, cur, h2, h3, h4⟩
  · exact .inl h2
  · exact .inr ⟨g, cap, cur, h2, Nat.le_trans hB h3, h4⟩
theorem NetR.lower {w : World} {B B' nb : Nat} {v : Value} {l : List Ac} {tk pl : Nat} {rc : List Bool} (h : NetR w B nb v l tk pl rc) (hB : B' ≤ B) : NetR w B' nb v l tk pl rc :=
  ⟨h.box, h.own.lower hB, h.ne, h.n36⟩
set_option maxRecDepth 100000 in
set_option maxHeartbeats 1000000 in
theorem settled78 (w : World) (v1 v2 : Value) (b : Bk) (hv : BkR w w.heap.size v1 v2 b) : Calls Tryz.prog 31 #[.agg #[v1, v2]] w (SettledPost w b) := by
  have HC := Lib.hid (fun (w1 : World) (hb : Below w.heap.size w w1) => ckBook25 v1 v2 b w1 (hv.later hb))
  have HS := Lib.hid (fun (w1 : World) (hb : Below w.heap.size w w1) (hok : OkBk b) => settle72 w1 v1 v2 b hok (hv.later hb))
  obtain ⟨⟨a1, n1, hv1, hl1, hA1⟩, ⟨a2, n2, hv2, hl2, hA2⟩, hids⟩ := hv
  subst hv1 hv2
  clear hA1 hA2 hids
  go_enter Tryz.func31, Tryz.ntmps31
  go_wp2_with fail
  refine (HC.out _ ((Below.refl _ _).alloc (Nat.le_refl _) _)).mono ?_
  rintro e w1 ⟨rfl, hb1⟩
  have hx1 := (Box.new w #[.slice a1 b.st.length n1, .slice a2 b.ts.length n2] 25).later hb1
  have hbb := ((Below.refl w.heap.size w).alloc (Nat.le_refl _) (.cells #[.slice a1 b.st.length n1, .slice a2 b.ts.length n2] 25)).trans (hb1.mono (by simp))
  have HB := Lib.hid hbb
  have x0 := hx1.cell 0
  have x1 := hx1.cell 1
  simp only [List.getElem?_cons_zero, List.getElem?_cons_succ] at x0 x1
  clear hb1 hbb
  by_cases hck : ckBook b = 0
  · have hne : (ckBook b == 0) = true := by simp [hck]
    have HCK := Lib.hid hck
    go_wp2_with fail
    refine (HS.out w1 HB.out (okBk_of HCK.out)).mono ?_
    intro e w2 hp
    obtain ⟨ok, nb, v, l, rc, rfl, hn, hb2, hnb, hsh, _, hiff, hci, _⟩ := settle_con (okBk_of HCK.out) hp
    have HB2 := Lib.hid (HB.out.trans (hb2.mono HB.out.size))
    have HIF := Lib.hid hiff
    have HN := Lib.hid (hn.lower HB.out.size)
    have HNB := Lib.hid (Nat.le_trans HB.out.size hnb)
    have HCI := Lib.hid hci
    have HSH := Lib.hid hsh
    clear hp hb2 hiff hn hnb hci hsh
    cases ok
    · go_wp2_with fail
      refine bodyPost_ret (results_tmp2 rfl _ _ _) rfl ?_
      exact ⟨HB2.out, .inr (.inl ⟨HCK.out, fun h => (by have := HIF.out.2 h; cases this), rfl⟩)⟩
    · go_wp2_with fail
      refine bodyPost_ret (results_tmp2 rfl _ _ _) rfl ?_
      exact ⟨HB2.out, .inr (.inr ⟨HCK.out, HIF.out.1 (by trivial), nb, v, l, rc, rfl, HN.out, HNB.out, HSH.out, HCI.out (by trivial)⟩)⟩
  · have hne : (ckBook b == 0) = false := by simp [hck]
    have HCK := Lib.hid hck
    clear hck
    go_wp2_with fail
    refine bodyPost_ret (results_tmp2 rfl _ _ _) rfl ?_
    exact ⟨HB.out, .inl ⟨HCK.out, rfl⟩⟩
end Go.Proofs.YtflchbejjofppaaGreatDoor
/- Walks: weigh.Tighten. -/
namespace Go.Proofs.YtflchbejjofppaaGreatDoor
open Go Go.Proofs Go.RowKit
def Tight (b : Bk) (rs : List Rg) : Prop := ∀ i r, rs[i]? = some r → Extent (b.st.length + 1) (arcsOf b) i r.lo r.hi
theorem Own.keeps {α : Type} {f : α → List Value} {sz : Nat} {e : TypeId} {w w' : World} {base : Nat} {v : Value} {l : List α} {S : Nat → Prop} (h : Own f sz e w base v l) (hk : Kept S w w') (hn : ∀ k, v.ownBlock = some k → ¬ S k) : Own f sz e w' base v l := by
  have h0 := h
  obtain ⟨h1, h2⟩ := h
  refine ⟨h1, ?_⟩
  rcases h2 with h2 | ⟨g, cap, cur, h2, h3, h4, h5⟩
  · exact .inl h2
  · have hg : g < w.heap.size := (Array.getElem?_eq_some_iff.1 h4).1
    refine .inr ⟨g, cap, cur, h2, h3, ?_, h5⟩
    rw [hk.block g hg (hn g (by rw [h2]; rfl))]; exact h4
theorem Own.two_types {α β : Type} {f : α → List Value} {f' : β → List Value} {sz sz' : Nat} {e e' : TypeId} {w : World} {base base' : Nat} {v v' : Value} {l : List α} {l' : List β} (h : Own f sz e w base v l) (h' : Own f' sz' e' w base' v' l') (hne : e' ≠ e) :
    ∀ k, v.ownBlock = some k → v'.ownBlock ≠ some k := fun k hk hk' => by
  rcases h'.2 with ⟨rfl, _⟩ | ⟨g, cap, cur, rfl, _, hg, _⟩
  · simp [Value.ownBlock] at hk'
  · obtain rfl : g = k := by simpa [Value.ownBlock] using hk'
    rcases h.2 with ⟨rfl, _⟩ | ⟨g', cap', cur', rfl, _, hg', _⟩
    · simp [Value.ownBlock] at hk
    · obtain rfl : g' = g := by simpa [Value.ownBlock] using hk
      rw [hg] at hg'
      cases hg'
      exact hne rfl
theorem Extent.shp {n : Nat} {l l' : List Ac} {i : Nat} {lo hi : Int} (hs : shp l' = shp l) (h : Extent n l' i lo hi) : Extent n l i lo hi := by
  obtain ⟨⟨l1, a1, h1, h2⟩, ⟨l3, a3, h3, h4⟩, h5⟩ := h
  exact ⟨⟨l1, a1, h1.trans hs, h2⟩, ⟨l3, a3, h3.trans hs, h4⟩, fun l2 a2 e1 e2 e3 => h5 l2 a2 (e1.trans hs.symm) e2 e3⟩
def TightPost (w : World) (b : Bk) (e : Ending) (w' : World) : Prop :=
  Below w.heap.size w w' ∧ ((ckBook b ≠ 0 ∧ e = .returned (.tuple #[.slice none 0 0, .int .i64 (ckBook b)])) ∨ (ckBook b = 0 ∧ ¬ Con b ∧ e = .returned (.tuple #[.slice none 0 0, .int .i64 15])) ∨
    (ckBook b = 0 ∧ Con b ∧ ∃ v rs, e = .returned (.tuple #[v, .int .i64 0]) ∧ Sl Rg.enc 2 w' w'.heap.size v rs ∧ rs.length = b.ts.length ∧ Tight b rs))
structure TightW (w wr : World) (b : Bk) (nb : Nat) (v vo : Value) (rs : List Rg) : Prop where
  net : ∃ l rc, NetR wr w.heap.size nb v l b.ts.length b.st.length rc ∧ shp l = shp (arcsOf b) ∧ Circ (b.st.length + 1) l
  own : Own Rg.enc 2 34 wr w.heap.size vo rs
  tight : Tight b rs
  nlt : w.heap.size ≤ nb
  below : Below w.heap.size w wr
theorem smallS_arcs {b : Bk} (hok : OkBk b) : SmallS (arcsOf b) 1000000000000 := fun a ha => by
  have := arcs_props hok ha
  omega
theorem TightW.call {w wr : World} {b : Bk} {nb : Nat} {v vo : Value} {rs : List Rg} (h : TightW w wr b nb v vo rs) (hok : OkBk b) (k : Nat) (hk : k < b.ts.length) (hl : rs.length = k) :
    Calls Tryz.prog 32 #[.pointer (some ⟨nb, 0, none⟩), .int .i64 k] wr fun e w' => ∃ lo hi, e = .returned (.agg #[.int .i64 lo, .int .i64 hi]) ∧ wr.heap.size ≤ w'.heap.size ∧ Own Rg.enc 2 34 w' w.heap.size vo rs ∧
      (∀ vo' w2, Own Rg.enc 2 34 w2 w.heap.size vo' (rs ++ [⟨lo, hi⟩]) → w'.grownBy w2 vo.ownBlock → TightW w w2 b nb v vo' (rs ++ [⟨lo, hi⟩])) := by
  obtain ⟨⟨l, rc, hn, hsh, hc⟩, hown, ht, hnlt, hbel⟩ := h
  have hlen := shp_length hsh
  have hal := arcs_len b
  have h32 := hok.st32
  have h128 := hok.ts128
  have hi : k < l.length := by omega
  have hE := shp_ends hsh.symm (arcs_ends hok)
  have hE36 : Ends 36 l := fun a ha => by have := hE a ha; omega
  have hne : l[k].fr ≠ l[k].to := by
    have hb := bare_eq (shp_get hsh k hi (by omega))
    rw [hb.1, hb.2.1]
    exact (arcs_props hok (List.getElem_mem (by omega : k < (arcsOf b).length))).2.2.1
  refine (extent79 w.heap.size nb v l b.ts.length b.st.length rc k wr hn (by omega) ((smallS_arcs hok).shp hsh) hc.fits hE36 hi hne).mono ?_
  rintro e w' ⟨l', rc', lo, hi', rfl, hn', hk', hsh', hf', hext⟩
  obtain ⟨hc', hx⟩ := hext _ hE hc
  have hS : ∀ j, vo.ownBlock = some j → ¬ Mine nb v j := by
    rintro j hj (rfl | hm)
    · exact hown.other_type hn.box (by decide) hj
    · exact hown.two_types hn.own (by decide) j hj hm
  have hown' := hown.keeps hk' hS
  refine ⟨lo, hi', rfl, hk'.size, hown', fun vo' w2 ho2 hg => ⟨⟨l', rc', ?_, hsh'.trans hsh, hc'⟩, ho2, ?_, hnlt, ?_⟩⟩
  · have hnb : some nb ≠ vo.ownBlock := fun e => hown.other_type hn.box (by decide) e.symm
    refine ⟨hn'.box.grown hg hnb, hn'.own.kept hg ?_, hn'.ne, hn'.n36⟩
    by_cases hv : v.ownBlock = none
    · exact .inl hv
    · refine .inr fun e => ?_
      cases h : v.ownBlock with
      | none => exact hv h
      | some j => rw [h] at e; exact hown.two_types hn.own (by decide) j e.symm h
  · intro i r hr
    by_cases hlt : i < rs.length
    · rw [List.getElem?_append_left hlt] at hr; exact ht i r hr
    · rw [List.getElem?_append_right (by omega)] at hr
      by_cases h0 : i = rs.length
      · subst h0
        simp at hr
        subst hr
        rw [hl]
        exact hx.shp hsh
      · rw [List.getElem?_eq_none (by simp; omega)] at hr; cases hr
  · have hb' : Below w.heap.size w w' := hbel.trans (hk'.toBelow hbel.size (by
      rintro j (rfl | hm)
      · exact hnlt
      · exact (World.ownsRow.lt hn.own j hm).1))
    exact hb'.grown hg hb'.size fun j hj => (World.ownsRow.lt hown' j hj).1
set_option maxRecDepth 100000 in
set_option maxHeartbeats 1000000 in
theorem tighten35 (w : World) (v1 v2 : Value) (b : Bk) (hv : BkR w w.heap.size v1 v2 b) : Calls Tryz.prog 8 #[.agg #[v1, v2]] w (TightPost w b) := by
  have HC := Lib.hid (fun (w1 : World) (hb : Below w.heap.size w w1) => settled78 w1 v1 v2 b (hv.later hb))
  obtain ⟨⟨a1, n1, hv1, hl1, hA1⟩, ⟨a2, n2, hv2, hl2, hA2⟩, hids⟩ := hv
  subst hv1 hv2
  clear hA1 hA2 hids
  go_enter Tryz.func8, Tryz.ntmps8
  go_wp2_with fail
  refine (HC.out _ ((Below.refl _ _).alloc (Nat.le_refl _) _)).mono ?_
  rintro e w1 ⟨hb1, hor⟩
  have hx1 := (Box.new w #[.slice a1 b.st.length n1, .slice a2 b.ts.length n2] 25).later hb1
  have hbb := ((Below.refl w.heap.size w).alloc (Nat.le_refl _) (.cells #[.slice a1 b.st.length n1, .slice a2 b.ts.length n2] 25)).trans (hb1.mono (by simp))
  have HB := Lib.hid hbb
  have x0 := hx1.cell 0
  have x1 := hx1.cell 1
  simp only [List.getElem?_cons_zero, List.getElem?_cons_succ] at x0 x1
  clear hbb hb1
  rcases hor with ⟨hck, rfl⟩ | ⟨hck, hcon, rfl⟩ | ⟨hck, hcon, nb, v, l, rc, rfl, hn, hnb, hsh, hci⟩
  · have hne : (ckBook b == 0) = false := by simp [hck]
    have HCK := Lib.hid hck
    clear hck
    go_wp2_with fail
    refine bodyPost_ret (results_tmp2 rfl _ _ _) rfl ?_
    exact ⟨HB.out, .inl ⟨HCK.out, rfl⟩⟩
  · have HCK := Lib.hid hck
    have HCON := Lib.hid hcon
    clear hck hcon
    go_wp2_with fail
    refine bodyPost_ret (results_tmp2 rfl _ _ _) rfl ?_
    exact ⟨HB.out, .inr (.inl ⟨HCK.out, HCON.out, rfl⟩)⟩
  · have HOK := Lib.hid (okBk_of hck)
    have h128 := (okBk_of hck).ts128
    have HCK := Lib.hid hck
    have HCON := Lib.hid hcon
    have HTW := Lib.hid (show TightW w w1 b nb v (.slice none 0 0) [] from ⟨⟨l, rc, hn.lower (by simp), hsh, hci⟩, Own.nil _ _ _ _ _, by intro i r h; simp at h, by simp at hnb; omega, HB.out⟩)
    clear hn hnb hsh hci hck hcon
    go_wp2_with fail
    go_loopw [19, 6] (fun i o wr => ∃ (k : Nat) (vo : Value) (rs : List Rg), k ≤ b.ts.length ∧ i = .int .i64 k ∧ o = vo ∧ rs.length = k ∧ TightW w wr b nb v vo rs) (fun i _ _ => b.ts.length - (intOf i).toNat)
    case atStart => exact ⟨0, _, [], by omega, rfl, rfl, rfl, HTW.out⟩
    case round =>
      clear HTW x0 x1 hx1
      obtain ⟨k, vo, rs, hk, rfl, rfl, hlen, htw⟩ := hrel
      by_cases hlt : k < b.ts.length
      · have HCA := Lib.hid (htw.call HOK.out k hlt hlen)
        have HLEN := Lib.hid hlen
        clear hlen
        have hbe := htw.below.size
        clear htw
        go_wp2_with fail
        refine HCA.out.mono ?_
        rintro e w1 ⟨lo, hi, rfl, hsz, hown, hfin⟩
        have HFIN := Lib.hid hfin
        have hbase : w.heap.size ≤ w1.heap.size := by omega
        have HBASE := Lib.hid hbase
        have HLK := Lib.hid (show rs.length ≤ 1000000 by rw [HLEN.out]; omega)
        obtain ⟨a', cap', rfl⟩ := hown.shape
        have HOWN := Lib.hid hown
        clear hfin hown
        go_wp2_with (at_builtin; refine wpList_push Rg.enc 2 16 22 34 _ Tryz.underlying22 Tryz.infoRg rfl (by decide) (by decide) Rg.enc_len Rg.enc_one rs ⟨lo, hi⟩ w.heap.size w1 _ rfl _ HOWN.out HBASE.out HLK.out rfl _ _ rfl rfl rfl ?_; intro v' w' hown' hg'; have HOW := Lib.hid hown'; have HGR := Lib.hid hg'; clear hown' hg')
        go_roundw
        case rel => exact ⟨k + 1, _, rs ++ [⟨lo, hi⟩], by omega, by go_num, rfl, by simp [HLEN.out], HFIN.out _ _ HOW.out HGR.out⟩
        case measure => simp [intOf]; omega
      · obtain rfl : k = b.ts.length := by omega
        go_wp2_with fail
        refine bodyPost_ret (results_tmp2 rfl _ _ _) rfl ?_
        exact ⟨htw.below, .inr (.inr ⟨HCK.out, HCON.out, _, rs, rfl, htw.own.toSl Rg.enc_len (by omega), hlen, htw.tight⟩)⟩
end Go.Proofs.YtflchbejjofppaaGreatDoor
/- Places together: the network with one arc more, plainly. -/
namespace Go.Proofs.YtflchbejjofppaaGreatDoor
open Go Go.Proofs Go.RowKit
def Ac.goto (t : Nat) (a : Ac) : Ac := { a with to := t }
def retgt (t : Nat) : List Nat → List Ac → List Ac
  | [], l => l
  | i :: is, l => retgt t is (l.modify i (Ac.goto t))
def atI (f : Ac → Int) (l : List Ac) (i : Nat) : Int := match l[i]? with | some a => f a | none => 0
def flSum (is : List Nat) (l : List Ac) : Int := tot (atI Ac.fl l) is
theorem retgt_get (t : Nat) : ∀ (is : List Nat) (l : List Ac) (j : Nat), (retgt t is l)[j]? = l[j]?.map fun a => if j ∈ is then a.goto t else a
  | [], l, j => by simp [retgt]
  | i :: is, l, j => by
    rw [retgt, retgt_get t is, List.getElem?_modify]
    by_cases h : i = j
    · subst h
      cases l[i]? with
      | none => simp
      | some a => by_cases h2 : i ∈ is <;> simp [h2, Ac.goto]
    · have h' : ¬ j = i := fun e => h e.symm
      cases l[j]? with
      | none => simp
      | some a => simp [h, h']
def OutI (is : List Nat) (l : List Ac) : Prop := is.Nodup ∧ ∀ i ∈ is, ∃ a, l[i]? = some a ∧ a.to = 0
theorem shp_at {l l' : List Ac} (h : shp l' = shp l) {i : Nat} {a : Ac} (ha : l[i]? = some a) : ∃ a', l'[i]? = some a' ∧ a'.fr = a.fr ∧ a'.to = a.to ∧ a'.lo = a.lo ∧ a'.hi = a.hi := by
  obtain ⟨hi, e⟩ := List.getElem?_eq_some_iff.1 ha
  have hi' : i < l'.length := by rw [shp_length h]; exact hi
  have := bare_eq (shp_get h i hi' hi)
  rw [e] at this
  exact ⟨l'[i], List.getElem?_eq_getElem hi', this⟩
theorem OutI.shp {is : List Nat} {l l' : List Ac} (h : OutI is l) (hs : shp l' = shp l) : OutI is l' :=
  ⟨h.1, fun i hi => by obtain ⟨a, ha, h0⟩ := h.2 i hi; obtain ⟨a', h1, _, h2, _⟩ := shp_at hs ha; exact ⟨a', h1, h2.trans h0⟩⟩
def Together (n : Nat) (l : List Ac) (is : List Nat) (lo hi : Int) : Prop :=
  (∃ l2, shp l2 = shp l ∧ Circ (n + 1) l2 ∧ flSum is l2 = lo) ∧ (∃ l2, shp l2 = shp l ∧ Circ (n + 1) l2 ∧ flSum is l2 = hi) ∧ ∀ l2, shp l2 = shp l → Circ (n + 1) l2 → lo ≤ flSum is l2 ∧ flSum is l2 ≤ hi
end Go.Proofs.YtflchbejjofppaaGreatDoor
/- Walks: together. -/
namespace Go.Proofs.YtflchbejjofppaaGreatDoor
open Go Go.Proofs Go.RowKit
theorem tot_snoc {α : Type} (f : α → Int) (l : List α) (x : α) : tot f (l ++ [x]) = tot f l + f x := by rw [tot_append]; simp [tot]
theorem modify_set (l : List Ac) (i t : Nat) (h : i < l.length) : l.modify i (Ac.goto t) = l.set i (l[i].goto t) := by
  apply List.ext_getElem?
  intro j
  rw [List.getElem?_modify, List.getElem?_set]
  by_cases e : i = j
  · subst e; simp [h]
  · simp [e]
def idx (tk : Nat) (ps : List Int) : List Nat := ps.map fun p => tk + p.toNat
structure TogH (l : List Ac) (tk pl : Nat) (ps : List Int) : Prop where
  len : l.length = tk + pl
  tk128 : tk ≤ 128
  pl32 : pl ≤ 32
  small : ∀ a ∈ l, -999999999 ≤ a.lo ∧ a.hi ≤ 999999999
  ends : Ends (pl + 1) l
  circ : Circ (pl + 1) l
  ne : ∀ a ∈ l, a.fr ≠ a.to
  out : ∀ i a, tk ≤ i → l[i]? = some a → a.to = 0
  inr : ∀ p ∈ ps, 0 ≤ p ∧ p < pl
  nodup : ps.Nodup
theorem TogH.step {l : List Ac} {tk pl : Nat} {ps : List Int} (h : TogH l tk pl ps) (k : Nat) (hk : k < ps.length) :
    ∃ (q : Nat) (a : Ac), ps[k] = q ∧ q < pl ∧ l[tk + q]? = some a ∧ (retgt (pl + 1) (idx tk (ps.take k)) l)[tk + q]? = some a ∧ idx tk (ps.take (k + 1)) = idx tk (ps.take k) ++ [tk + q] := by
  have hp := h.inr ps[k] (List.getElem_mem hk)
  obtain ⟨q, hq⟩ : ∃ q : Nat, ps[k] = q := ⟨ps[k].toNat, by omega⟩
  have hlt : tk + q < l.length := by rw [h.len]; omega
  refine ⟨q, l[tk + q], hq, by omega, List.getElem?_eq_getElem hlt, ?_, ?_⟩
  · rw [retgt_get, List.getElem?_eq_getElem hlt]
    have hni : tk + q ∉ idx tk (ps.take k) := fun hm => by
      obtain ⟨p, hp1, hp2⟩ := List.mem_map.1 hm
      have hp3 := h.inr p (List.mem_of_mem_take hp1)
      obtain ⟨j, hj, hje⟩ := List.mem_iff_getElem.1 hp1
      have hjk : j < k ∧ j < ps.length := by rw [List.length_take] at hj; omega
      rw [List.getElem_take] at hje
      have hpq : p = ps[k] := by omega
      rw [hpq] at hje
      have := (List.nodup_iff_pairwise_ne.1 h.nodup)
      rw [List.pairwise_iff_getElem] at this
      exact this j k hjk.2 hk hjk.1 hje
    simp [hni]
  · unfold idx
    rw [take_snoc ps k hk, List.map_append]
    simp [hq]
structure TogX (w wr : World) (B nb : Nat) (v : Value) (L : List Ac) (tk pl : Nat) (rc : List Bool) (lo hi : Int) : Prop where
  net : NetR wr B nb v L tk pl rc
  r0 : Box wr w.heap.size 34 [.int .i64 0, .int .i64 0]
  r1 : Box wr (w.heap.size + 1) 34 [.int .i64 lo, .int .i64 hi]
  below : Below B w wr
  v0 : ∀ j, v.ownBlock = some j → j < w.heap.size
  nb0 : nb < w.heap.size
  nbB : B ≤ nb
theorem TogX.drewN {w wr : World} {B nb : Nat} {v : Value} {L : List Ac} {tk pl : Nat} {rc : List Bool} {lo hi : Int} (h : TogX w wr B nb v L tk pl rc lo hi) (n : Nat) : TogX w (wr.drewN n) B nb v L tk pl rc lo hi :=
  have hb := below_drewN (Below.refl wr.heap.size wr) n
  ⟨h.net.later hb, h.r0.later hb, h.r1.later hb, h.below.trans (hb.mono (by have := h.nbB; have := h.net.box.lt; omega)), h.v0, h.nb0, h.nbB⟩
theorem TogX.goto {w wr : World} {B nb : Nat} {v : Value} {L : List Ac} {tk pl : Nat} {rc : List Bool} {lo hi : Int} (h : TogX w wr B nb v L tk pl rc lo hi) (i : Nat) (hi' : i < L.length) (t : Nat) {g : Nat} (hv : v.ownBlock = some g) :
    TogX w (wr.setCell ⟨g, i * 5 + 3, none⟩ (.int .i64 t)) B nb v (L.modify i (Ac.goto t)) tk pl rc lo hi := by
  have hg := h.v0 g hv
  have hne : g ≠ nb := fun e => h.net.ne (by rw [hv, e])
  obtain ⟨g', cap, e, hb1, hb2⟩ := h.net.own.form (by omega)
  have eg : g' = g := by rw [e] at hv; simpa [Value.ownBlock] using hv
  subst eg
  have hown := h.net.own
  rw [e] at hown
  have hset := hown.set Ac.encW_len i hi' 3 (by omega) (.int .i64 t) (L[i].goto t) rfl
  rw [← modify_set L i t hi', ← e] at hset
  exact ⟨⟨h.net.box.other _ (by dsimp only; omega), hset, h.net.ne, h.net.n36⟩, h.r0.other _ (by dsimp only; omega), h.r1.other _ (by dsimp only; omega), h.below.setCell (by dsimp only; omega) _, h.v0, h.nb0, h.nbB⟩
end Go.Proofs.YtflchbejjofppaaGreatDoor
/- Walks: weigh.Change. -/
namespace Go.Proofs.YtflchbejjofppaaGreatDoor
open Go Go.Proofs Go.RowKit
theorem Together.shp {n : Nat} {l l' : List Ac} {is : List Nat} {lo hi : Int} (hs : shp l' = shp l) (h : Together n l' is lo hi) : Together n l is lo hi := by
  obtain ⟨⟨l1, h1, h2⟩, ⟨l3, h3, h4⟩, h5⟩ := h
  exact ⟨⟨l1, h1.trans hs, h2⟩, ⟨l3, h3.trans hs, h4⟩, fun l2 e1 e2 => h5 l2 (e1.trans hs.symm) e2⟩
end Go.Proofs.YtflchbejjofppaaGreatDoor
