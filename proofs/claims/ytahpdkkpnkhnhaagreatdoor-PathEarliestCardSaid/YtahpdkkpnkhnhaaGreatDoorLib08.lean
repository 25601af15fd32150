/- Lemmas on the way to the laws (part 8): Al Ba -/
import Derived.Test.YtahpdkkpnkhnhaaGreatDoorLib07
set_option linter.unusedVariables false
set_option linter.unusedSimpArgs false

/- Walks: the error of a path; IsPath and Time. -/
namespace Go.Proofs.YtahpdkkpnkhnhaaGreatDoor
open Go Go.Proofs Go.RowKit Go.Shelf

theorem unk_in {n : Nat} {l : List Int} (h : l.any (fun x => !inN n x) = false) : ∀ x ∈ l, inN n x = true := fun x hx => by
  have := List.any_eq_false.1 h x hx; simpa using this
theorem pathE_unk {p : Pl} {l : List Int} (h : l.any (fun x => !inN p.ms.length x) = true) : pathE p l = 10 := by
  unfold pathE unkE; rw [if_pos h]; rfl
theorem unkE_t {n : Nat} {l : List Int} (h : l.any (fun x => !inN n x) = true) : unkE n l = 10 := by unfold unkE; rw [if_pos h]
theorem unkE_f {n : Nat} {l : List Int} (h : l.any (fun x => !inN n x) = false) : unkE n l = 0 := by unfold unkE; rw [if_neg (by rw [h]; simp)]
theorem pathE_in {p : Pl} {l : List Int} (h : l.any (fun x => !inN p.ms.length x) = false) : pathE p l = if pathB p l then 0 else 1 := by
  unfold pathE; rw [unkE_f h, if_neg (by simp)]
/-- What a plant without an error is. -/
structure OkP (p : Pl) : Prop where
  pos : 0 < p.ms.length
  le : p.ms.length ≤ 64
  kinds : ∀ m ∈ p.ms, 0 ≤ kn m.kind
  times : ∀ m ∈ p.ms, 0 ≤ m.time ∧ m.time ≤ 100000
  ale : p.arcs.length ≤ 256
  ins : ∀ a ∈ p.arcs, inN p.ms.length a.fr = true ∧ inN p.ms.length a.to = true ∧ a.fr ≠ a.to ∧ kAt p a.to ≠ 0 ∧ kAt p a.fr ≠ 2
  nodup : p.arcs.Nodup
theorem ckMsL_ok : ∀ {l : List Mc}, ckMsL l = 0 → ∀ m ∈ l, 0 ≤ kn m.kind ∧ 0 ≤ m.time ∧ m.time ≤ 100000
  | [], _ => fun m hm => by cases hm
  | m :: r, h => by
    unfold ckMsL at h
    split at h
    · cases h
    · split at h
      · cases h
      · intro x hx
        rcases List.mem_cons.1 hx with rfl | hx
        · omega
        · exact ckMsL_ok h x hx
theorem ckArL_ok {p : Pl} : ∀ {r : List Ar} {k : Nat}, ckArL p k r = 0 → ∀ i (h : i < r.length), ckAr p (k + i) r[i] = 0
  | [], _, _ => fun i hi => absurd hi (by simp)
  | a :: r, k, h => by
    unfold ckArL at h
    split at h
    · rename_i h1; exact absurd h h1
    · rename_i h1
      intro i hi
      cases i with
      | zero => simpa using h1
      | succ i =>
        have := ckArL_ok h i (by simpa using hi)
        simpa [Nat.add_assoc, Nat.add_comm 1 i] using this
theorem ckPlant_ok {p : Pl} (h : ckPlant p = 0) : OkP p := by
  unfold ckPlant at h
  split at h
  · cases h
  · split at h
    · cases h
    · split at h
      · rename_i h1; exact absurd h h1
      · rename_i h1
        split at h
        · cases h
        · have hm := ckMsL_ok (Decidable.not_not.1 h1)
          have ha := ckArL_ok h
          have hat : ∀ i (hi : i < p.arcs.length), (inN p.ms.length p.arcs[i].fr = true ∧ inN p.ms.length p.arcs[i].to = true ∧ p.arcs[i].fr ≠ p.arcs[i].to ∧ kAt p p.arcs[i].to ≠ 0 ∧ kAt p p.arcs[i].fr ≠ 2) ∧ p.arcs[i] ∉ p.arcs.take i := fun i hi => by
            have := ha i hi
            unfold ckAr at this
            rw [Nat.zero_add] at this
            split at this
            · cases this
            · rename_i g1
              split at this
              · cases this
              · rename_i g2
                split at this
                · cases this
                · rename_i g3
                  refine ⟨⟨?_, ?_, fun e => g2 (.inl e), fun e => g2 (.inr (.inl e)), fun e => g2 (.inr (.inr e))⟩, g3⟩
                  · cases hh : inN p.ms.length p.arcs[i].fr with
                    | true => rfl
                    | false => exact absurd (.inl hh) g1
                  · cases hh : inN p.ms.length p.arcs[i].to with
                    | true => rfl
                    | false => exact absurd (.inr hh) g1
          refine ⟨by omega, by omega, fun m hx => (hm m hx).1, fun m hx => (hm m hx).2, by omega, fun a hx => ?_, ?_⟩
          · obtain ⟨i, hi, rfl⟩ := List.mem_iff_getElem.1 hx
            exact (hat i hi).1
          · rw [List.nodup_iff_pairwise_ne, List.pairwise_iff_getElem]
            intro i j hi hj hij e
            exact (hat j hj).2 (by rw [← e]; exact List.mem_take_iff_getElem.2 ⟨i, by omega, rfl⟩)
theorem PlR.agg {w : World} {v1 v2 : Value} {p : Pl} (h : PlR w w.heap.size v1 v2 p) : ∃ a1 c1 a2 c2, v1 = .slice a1 p.ms.length c1 ∧ v2 = .slice a2 p.arcs.length c2 := by
  obtain ⟨⟨a1, n1, h1, _⟩, ⟨a2, n2, h2, _⟩⟩ := h
  exact ⟨a1, n1, a2, n2, h1, h2⟩

set_option maxRecDepth 100000 in
set_option maxHeartbeats 1000000 in
theorem checkPath104 (w : World) (v1 v2 u : Value) (p : Pl) (l : List Int) (hw : WdR w) (hv : PlR w w.heap.size v1 v2 p) (hu : Sl encI 1 w w.heap.size u l) : Calls Tryz.prog 104 #[.agg #[v1, v2], u] w (Ret (.int .i64 (pathE p l)) w) := by
  obtain ⟨a1, n1, a2, n2, rfl, rfl⟩ := hv.agg
  have HU := Lib.hid (fun (w1 : World) (hb : Below w.heap.size w w1) => unknown79 a1 p.ms.length n1 (.slice a2 p.arcs.length n2) u l w1 (hu.later hb))
  have HI := Lib.hid (fun (w1 : World) (hb : Below w.heap.size w w1) hin => isPath103 w1 _ _ u p l (hw.later hb) (hv.later hb) (hu.later hb) hin)
  clear hw hv hu
  have HB := Lib.hid ((Below.refl w.heap.size w).alloc (Nat.le_refl _) (.cells #[.slice a1 p.ms.length n1, .slice a2 p.arcs.length n2] 25))
  have HX := Lib.hid (Box.new w #[.slice a1 p.ms.length n1, .slice a2 p.arcs.length n2] 25)
  obtain ⟨q, hq⟩ : ∃ q, l.any (fun x => !inN p.ms.length x) = q := ⟨_, rfl⟩
  go_enter Tryz.func104, Tryz.ntmps104
  cases q with
  | true =>
    have HV := Lib.hid (pathE_unk hq)
    rw [unkE_t hq] at HU
    clear HI hq
    go_wp2_with fail
    refine (HU.out _ HB.out).mono ?_
    rintro e w2 ⟨rfl, hb2⟩
    go_wp2_with fail
    go_ret
    exact ⟨by rw [HV.out]; rfl, HB.out.trans (hb2.mono HB.out.size)⟩
  | false =>
    have HV := Lib.hid (pathE_in hq)
    rw [unkE_f hq] at HU
    have HI2 := Lib.hid (fun (w1 : World) (hb : Below w.heap.size w w1) => HI.out w1 hb (unk_in hq))
    obtain ⟨r, hr⟩ : ∃ r, pathB p l = r := ⟨_, rfl⟩
    rw [hr] at HI2 HV
    clear HI hq hr
    go_wp2_with fail
    refine (HU.out _ HB.out).mono ?_
    rintro e w2 ⟨rfl, hb2⟩
    have HB2 := Lib.hid (HB.out.trans (hb2.mono HB.out.size))
    obtain ⟨x0, x1, xf, xz⟩ := (HX.out.later hb2).v2
    clear hb2
    go_wp2_with fail
    refine (HI2.out _ HB2.out).mono ?_
    rintro e w3 ⟨rfl, hb3⟩
    cases r
    all_goals
      go_wp2_with fail
      go_ret
      exact ⟨by rw [HV.out]; rfl, HB2.out.trans (hb3.mono HB2.out.size)⟩

set_option maxRecDepth 100000 in
set_option maxHeartbeats 1000000 in
theorem checkPath22 (w : World) (v1 v2 u : Value) (p : Pl) (l : List Int) (hv : PlR w w.heap.size v1 v2 p) (hu : Sl encI 1 w w.heap.size u l) : Calls Tryz.prog 22 #[.agg #[v1, v2], u] w (Ret (.int .i64 (pathE p l)) w) := by
  obtain ⟨a1, n1, a2, n2, rfl, rfl⟩ := hv.agg
  have HU := Lib.hid (fun (w1 : World) (hb : Below w.heap.size w w1) => unknown88 a1 p.ms.length n1 (.slice a2 p.arcs.length n2) u l w1 (hu.later hb))
  have HI := Lib.hid (fun (w1 : World) (hb : Below w.heap.size w w1) hin => isPath89 w1 _ _ u p l (hv.later hb) (hu.later hb) hin)
  clear hv hu
  have HB := Lib.hid ((Below.refl w.heap.size w).alloc (Nat.le_refl _) (.cells #[.slice a1 p.ms.length n1, .slice a2 p.arcs.length n2] 25))
  have HX := Lib.hid (Box.new w #[.slice a1 p.ms.length n1, .slice a2 p.arcs.length n2] 25)
  obtain ⟨q, hq⟩ : ∃ q, l.any (fun x => !inN p.ms.length x) = q := ⟨_, rfl⟩
  go_enter Tryz.func22, Tryz.ntmps22
  cases q with
  | true =>
    have HV := Lib.hid (pathE_unk hq)
    rw [unkE_t hq] at HU
    clear HI hq
    go_wp2_with fail
    refine (HU.out _ HB.out).mono ?_
    rintro e w2 ⟨rfl, hb2⟩
    go_wp2_with fail
    go_ret
    exact ⟨by rw [HV.out]; rfl, HB.out.trans (hb2.mono HB.out.size)⟩
  | false =>
    have HV := Lib.hid (pathE_in hq)
    rw [unkE_f hq] at HU
    have HI2 := Lib.hid (fun (w1 : World) (hb : Below w.heap.size w w1) => HI.out w1 hb (unk_in hq))
    obtain ⟨r, hr⟩ : ∃ r, pathB p l = r := ⟨_, rfl⟩
    rw [hr] at HI2 HV
    clear HI hq hr
    go_wp2_with fail
    refine (HU.out _ HB.out).mono ?_
    rintro e w2 ⟨rfl, hb2⟩
    have HB2 := Lib.hid (HB.out.trans (hb2.mono HB.out.size))
    obtain ⟨x0, x1, xf, xz⟩ := (HX.out.later hb2).v2
    clear hb2
    go_wp2_with fail
    refine (HI2.out _ HB2.out).mono ?_
    rintro e w3 ⟨rfl, hb3⟩
    cases r
    all_goals
      go_wp2_with fail
      go_ret
      exact ⟨by rw [HV.out]; rfl, HB2.out.trans (hb3.mono HB2.out.size)⟩

/-- What IsPath and Time return. -/
def isPathV (p : Pl) (l : List Int) : Bool × Int := if ckPlant p ≠ 0 then (false, ckPlant p) else if unkE p.ms.length l ≠ 0 then (false, unkE p.ms.length l) else (pathB p l, 0)
def timeV (p : Pl) (l : List Int) : Int × Int := if ckPlant p ≠ 0 then (0, ckPlant p) else if pathE p l ≠ 0 then (0, pathE p l) else (tSum p l, 0)

set_option maxRecDepth 100000 in
set_option maxHeartbeats 1000000 in
theorem isPath33 (w : World) (v1 v2 u : Value) (p : Pl) (l : List Int) (hw : WdR w) (hv : PlR w w.heap.size v1 v2 p) (hu : Sl encI 1 w w.heap.size u l) : Calls Tryz.prog 33 #[.agg #[v1, v2], u] w (Ret (.tuple #[.bool (isPathV p l).1, .int .i64 (isPathV p l).2]) w) := by
  obtain ⟨a1, n1, a2, n2, rfl, rfl⟩ := hv.agg
  have HP := Lib.hid (fun (w1 : World) (hb : Below w.heap.size w w1) => ckPlant32 w1 _ _ p (hw.later hb) (hv.later hb))
  have HU := Lib.hid (fun (w1 : World) (hb : Below w.heap.size w w1) => unknown79 a1 p.ms.length n1 (.slice a2 p.arcs.length n2) u l w1 (hu.later hb))
  have HI := Lib.hid (fun (w1 : World) (hb : Below w.heap.size w w1) hin => isPath103 w1 _ _ u p l (hw.later hb) (hv.later hb) (hu.later hb) hin)
  clear hw hv hu
  have HB := Lib.hid ((Below.refl w.heap.size w).alloc (Nat.le_refl _) (.cells #[.slice a1 p.ms.length n1, .slice a2 p.arcs.length n2] 25))
  have HX := Lib.hid (Box.new w #[.slice a1 p.ms.length n1, .slice a2 p.arcs.length n2] 25)
  obtain ⟨V, hV⟩ : ∃ V, isPathV p l = V := ⟨_, rfl⟩
  rw [hV]
  unfold isPathV at hV
  have HV := Lib.hid hV
  clear hV
  obtain ⟨c, hc⟩ : ∃ c, ckPlant p = c := ⟨_, rfl⟩
  rw [hc] at HP HV
  clear hc
  go_enter Tryz.func33, Tryz.ntmps33
  go_wp2_with fail
  refine (HP.out _ HB.out).mono ?_
  rintro e w2 ⟨rfl, hb2⟩
  have HB2 := Lib.hid (HB.out.trans (hb2.mono HB.out.size))
  have HX2 := Lib.hid (HX.out.later hb2)
  obtain ⟨x0, x1, xf, xz⟩ := HX2.out.v2
  clear hb2
  by_cases hc0 : c = 0
  rotate_left
  · have k0 : (c != 0) = true := by simpa using hc0
    have HV2 := Lib.hid (show V = (false, c) by rw [← HV.out, if_pos hc0])
    clear hc0
    go_wp2_with fail
    go_ret2
    exact ⟨by rw [HV2.out]; rfl, HB2.out⟩
  subst hc0
  have HV2 := Lib.hid (show V = if unkE p.ms.length l ≠ 0 then (false, unkE p.ms.length l) else (pathB p l, 0) by rw [← HV.out, if_neg (by simp)])
  clear HV
  obtain ⟨q, hq⟩ : ∃ q, l.any (fun x => !inN p.ms.length x) = q := ⟨_, rfl⟩
  cases q with
  | true =>
    rw [unkE_t hq, if_pos (by simp)] at HV2
    rw [unkE_t hq] at HU
    clear HI hq
    go_wp2_with fail
    refine (HU.out _ HB2.out).mono ?_
    rintro e w3 ⟨rfl, hb3⟩
    go_wp2_with fail
    go_ret2
    exact ⟨by rw [HV2.out]; rfl, HB2.out.trans (hb3.mono HB2.out.size)⟩
  | false =>
    rw [unkE_f hq, if_neg (by simp)] at HV2
    rw [unkE_f hq] at HU
    have HI2 := Lib.hid (fun (w1 : World) (hb : Below w.heap.size w w1) => HI.out w1 hb (unk_in hq))
    obtain ⟨r, hr⟩ : ∃ r, pathB p l = r := ⟨_, rfl⟩
    rw [hr] at HI2 HV2
    clear HI hq hr
    go_wp2_with fail
    refine (HU.out _ HB2.out).mono ?_
    rintro e w3 ⟨rfl, hb3⟩
    have HB3 := Lib.hid (HB2.out.trans (hb3.mono HB2.out.size))
    clear x0 x1 xf xz
    obtain ⟨x0, x1, xf, xz⟩ := (HX2.out.later hb3).v2
    clear hb3
    go_wp2_with fail
    refine (HI2.out _ HB3.out).mono ?_
    rintro e w4 ⟨rfl, hb4⟩
    go_wp2_with fail
    go_ret2
    exact ⟨by rw [HV2.out]; rfl, HB3.out.trans (hb4.mono HB3.out.size)⟩

set_option maxRecDepth 100000 in
set_option maxHeartbeats 1000000 in
theorem time34 (w : World) (v1 v2 u : Value) (p : Pl) (l : List Int) (hw : WdR w) (hv : PlR w w.heap.size v1 v2 p) (hu : Sl encI 1 w w.heap.size u l) : Calls Tryz.prog 34 #[.agg #[v1, v2], u] w (Ret (.tuple #[.int .i64 (timeV p l).1, .int .i64 (timeV p l).2]) w) := by
  obtain ⟨a1, n1, a2, n2, rfl, rfl⟩ := hv.agg
  have HP := Lib.hid (fun (w1 : World) (hb : Below w.heap.size w w1) => ckPlant32 w1 _ _ p (hw.later hb) (hv.later hb))
  have HU := Lib.hid (fun (w1 : World) (hb : Below w.heap.size w w1) => checkPath104 w1 _ _ u p l (hw.later hb) (hv.later hb) (hu.later hb))
  have HI := Lib.hid (fun (w1 : World) (hb : Below w.heap.size w w1) hin ht => seconds105 w1 _ _ u p l (hv.later hb) (hu.later hb) hin ht)
  clear hw hv hu
  have HB := Lib.hid ((Below.refl w.heap.size w).alloc (Nat.le_refl _) (.cells #[.slice a1 p.ms.length n1, .slice a2 p.arcs.length n2] 25))
  have HX := Lib.hid (Box.new w #[.slice a1 p.ms.length n1, .slice a2 p.arcs.length n2] 25)
  obtain ⟨V, hV⟩ : ∃ V, timeV p l = V := ⟨_, rfl⟩
  rw [hV]
  unfold timeV at hV
  have HV := Lib.hid hV
  clear hV
  have ht : ckPlant p = 0 → ∀ m ∈ p.ms, 0 ≤ m.time ∧ m.time ≤ 100000 := fun h => (ckPlant_ok h).times
  obtain ⟨c, hc⟩ : ∃ c, ckPlant p = c := ⟨_, rfl⟩
  rw [hc] at HP HV ht
  have HT := Lib.hid ht
  clear hc ht
  go_enter Tryz.func34, Tryz.ntmps34
  go_wp2_with fail
  refine (HP.out _ HB.out).mono ?_
  rintro e w2 ⟨rfl, hb2⟩
  have HB2 := Lib.hid (HB.out.trans (hb2.mono HB.out.size))
  have HX2 := Lib.hid (HX.out.later hb2)
  obtain ⟨x0, x1, xf, xz⟩ := HX2.out.v2
  clear hb2
  by_cases hc0 : c = 0
  rotate_left
  · have k0 : (c != 0) = true := by simpa using hc0
    have HV2 := Lib.hid (show V = (0, c) by rw [← HV.out, if_pos hc0])
    clear hc0
    go_wp2_with fail
    go_ret2
    exact ⟨by rw [HV2.out]; rfl, HB2.out⟩
  subst hc0
  have HV2 := Lib.hid (show V = if pathE p l ≠ 0 then (0, pathE p l) else (tSum p l, 0) by rw [← HV.out, if_neg (by simp)])
  clear HV
  have HT2 := Lib.hid (HT.out rfl)
  clear HT
  have HIN : Hid (pathE p l = 0 → ∀ x ∈ l, inN p.ms.length x = true) := Lib.hid (fun h => by
    cases hq : l.any (fun x => !inN p.ms.length x) with
    | true => rw [pathE_unk hq] at h; cases h
    | false => exact unk_in hq)
  obtain ⟨d, hd⟩ : ∃ d, pathE p l = d := ⟨_, rfl⟩
  rw [hd] at HU HV2 HIN
  clear hd
  go_wp2_with fail
  refine (HU.out _ HB2.out).mono ?_
  rintro e w3 ⟨rfl, hb3⟩
  have HB3 := Lib.hid (HB2.out.trans (hb3.mono HB2.out.size))
  clear x0 x1 xf xz
  obtain ⟨x0, x1, xf, xz⟩ := (HX2.out.later hb3).v2
  clear hb3
  by_cases hd0 : d = 0
  rotate_left
  · have k0 : (d != 0) = true := by simpa using hd0
    rw [if_pos hd0] at HV2
    clear hd0
    go_wp2_with fail
    go_ret2
    exact ⟨by rw [HV2.out]; rfl, HB3.out⟩
  subst hd0
  rw [if_neg (by simp)] at HV2
  have HI2 := Lib.hid (fun (w1 : World) (hb : Below w.heap.size w w1) => HI.out w1 hb (HIN.out rfl) HT2.out)
  clear HI HIN HT2
  obtain ⟨r, hr⟩ : ∃ r, tSum p l = r := ⟨_, rfl⟩
  rw [hr] at HI2 HV2
  clear hr
  go_wp2_with fail
  refine (HI2.out _ HB3.out).mono ?_
  rintro e w4 ⟨rfl, hb4⟩
  go_wp2_with fail
  go_ret2
  exact ⟨by rw [HV2.out]; rfl, HB3.out.trans (hb4.mono HB3.out.size)⟩
end Go.Proofs.YtahpdkkpnkhnhaaGreatDoor

/- Walks: names; two lists of numbers. -/
namespace Go.Proofs.YtahpdkkpnkhnhaaGreatDoor
open Go Go.Proofs Go.RowKit

theorem ret_bool {b b' : Bool} (h : b = b') : Ending.returned (.bool b) = .returned (.bool b') := by rw [h]
/-- A letter, a digit, a hyphen, an underscore, a point. -/
def okC (n : Int) : Bool := (decide (97 ≤ n) && decide (n ≤ 122)) || (decide (65 ≤ n) && decide (n ≤ 90)) || (decide (48 ≤ n) && decide (n ≤ 57)) || n == 45 || n == 95 || n == 46
theorem okC_true {n : Int} (h : (97 ≤ n ∧ n ≤ 122) ∨ (65 ≤ n ∧ n ≤ 90) ∨ (48 ≤ n ∧ n ≤ 57) ∨ n = 45 ∨ n = 95 ∨ n = 46) : okC n = true := by
  simp only [okC, Bool.or_eq_true, Bool.and_eq_true, decide_eq_true_eq, beq_iff_eq]; omega
theorem okC_false {n : Int} (h : ¬((97 ≤ n ∧ n ≤ 122) ∨ (65 ≤ n ∧ n ≤ 90) ∨ (48 ≤ n ∧ n ≤ 57) ∨ n = 45 ∨ n = 95 ∨ n = 46)) : okC n = false := by
  rw [Bool.eq_false_iff]; intro h2; apply h
  simp only [okC, Bool.or_eq_true, Bool.and_eq_true, decide_eq_true_eq, beq_iff_eq] at h2; omega
def okB (c : UInt8) : Bool := okC (c.toNat : Int)
def isName (s : ByteArray) : Bool := decide (1 ≤ s.size) && decide (s.size ≤ 24) && s.data.toList.all okB
theorem name_all_drop (s : ByteArray) (k : Nat) (h : k < s.size) : (s.data.toList.drop k).all okB = (okB s[k] && (s.data.toList.drop (k + 1)).all okB) := by
  rw [List.drop_eq_getElem_cons (by simpa using h)]
  rfl
set_option maxHeartbeats 1000000 in
theorem isName28 (s : ByteArray) (w : World) (hs : s.size ≤ 9223372036854775807) : Calls Tryz.prog 28 #[.string s] w fun e w' => e = .returned (.bool (isName s)) ∧ w = w' := by
  obtain ⟨R, hR⟩ : ∃ R, isName s = R := ⟨_, rfl⟩
  rw [hR]
  have HR := Lib.hid hR
  clear hR
  go_enter Tryz.func28, Tryz.ntmps28
  by_cases h0 : s.size < 1
  · go_wp2_with fail
    go_ret
    exact ⟨ret_bool (by rw [← HR.out]; unfold isName; simp; omega), rfl⟩
  by_cases h1 : 24 < s.size
  · go_wp2_with fail
    go_ret
    exact ⟨ret_bool (by rw [← HR.out]; unfold isName; simp; omega), rfl⟩
  go_wp2_with fail
  have HR1 : Hid (s.data.toList.all okB = R) := by
    have := HR.out
    unfold isName at this
    rw [decide_eq_true (by omega), decide_eq_true (by omega)] at this
    exact this
  go_loop [3] (fun i => ∃ k : Nat, k ≤ s.size ∧ i = .int .i64 k ∧ (s.data.toList.drop k).all okB = R) (fun i => s.size - (intOf i).toNat)
  case atStart => exact ⟨0, by omega, rfl, HR1.out⟩
  case round =>
    obtain ⟨k, hk, rfl, hrel⟩ := hrel
    clear HR1
    have HL := Lib.hid hrel
    clear hrel
    by_cases hlt : k < s.size
    · have hd := Lib.hid (name_all_drop s k hlt)
      have hc : s[k].toNat < 256 := s[k].toNat_lt
      by_cases hok : okB s[k] = true
      · have hok' : (97 ≤ (s[k].toNat : Int) ∧ (s[k].toNat : Int) ≤ 122) ∨ (65 ≤ (s[k].toNat : Int) ∧ (s[k].toNat : Int) ≤ 90) ∨ (48 ≤ (s[k].toNat : Int) ∧ (s[k].toNat : Int) ≤ 57) ∨ (s[k].toNat : Int) = 45 ∨ (s[k].toNat : Int) = 95 ∨ (s[k].toNat : Int) = 46 := by
          simp only [okB, okC, Bool.or_eq_true, Bool.and_eq_true, decide_eq_true_eq, beq_iff_eq] at hok; omega
        have HN : Hid ((s.data.toList.drop (k + 1)).all okB = R) := by have h := HL.out; rw [hd.out, hok, Bool.true_and] at h; exact h
        clear hok
        rcases hok' with ⟨h2, h3⟩ | ⟨h2, h3⟩ | ⟨h2, h3⟩ | h2 | h2 | h2
        · go_wp2_with fail
          go_round
          case rel => exact ⟨k + 1, by omega, by go_num, HN.out⟩
          case measure => simp [intOf]; omega
        · go_wp2_with fail
          go_round
          case rel => exact ⟨k + 1, by omega, by go_num, HN.out⟩
          case measure => simp [intOf]; omega
        · go_wp2_with fail
          go_round
          case rel => exact ⟨k + 1, by omega, by go_num, HN.out⟩
          case measure => simp [intOf]; omega
        · go_wp2_with fail
          go_round
          case rel => exact ⟨k + 1, by omega, by go_num, HN.out⟩
          case measure => simp [intOf]; omega
        · go_wp2_with fail
          go_round
          case rel => exact ⟨k + 1, by omega, by go_num, HN.out⟩
          case measure => simp [intOf]; omega
        · go_wp2_with fail
          go_round
          case rel => exact ⟨k + 1, by omega, by go_num, HN.out⟩
          case measure => simp [intOf]; omega
      · have hok' : (123 ≤ (s[k].toNat : Int)) ∨ (91 ≤ (s[k].toNat : Int) ∧ (s[k].toNat : Int) ≤ 94) ∨ (58 ≤ (s[k].toNat : Int) ∧ (s[k].toNat : Int) ≤ 64) ∨ (47 ≤ (s[k].toNat : Int) ∧ (s[k].toNat : Int) ≤ 47) ∨ (96 ≤ (s[k].toNat : Int) ∧ (s[k].toNat : Int) ≤ 96) ∨ ((s[k].toNat : Int) ≤ 44) := by
          simp only [okB, okC, Bool.or_eq_true, Bool.and_eq_true, decide_eq_true_eq, beq_iff_eq] at hok; omega
        have hok := (Bool.not_eq_true _).mp hok
        have HOK := Lib.hid hok
        clear hok
        have e1 : ((s[k].toNat : Int) == 45) = false := beq_eq_false_iff_ne.2 (by omega)
        have e2 : ((s[k].toNat : Int) == 95) = false := beq_eq_false_iff_ne.2 (by omega)
        have e3 : ((s[k].toNat : Int) == 46) = false := beq_eq_false_iff_ne.2 (by omega)
        have HF : Hid (false = R) := by have h := HL.out; rw [hd.out, HOK.out, Bool.false_and] at h; exact h
        rcases hok' with h2 | ⟨h2, h3⟩ | ⟨h2, h3⟩ | ⟨h2, h3⟩ | ⟨h2, h3⟩ | h2
        all_goals go_wp2_with fail
        all_goals first | (go_ret; exact ⟨ret_bool HF.out, rfl⟩) | (exfalso; simp only [Bool.not_eq_false', decide_eq_true_eq, Bool.not_eq_eq_eq_not, Bool.not_false] at *; omega)
    · obtain rfl : s.size = k := by omega
      go_wp2_with fail
      go_ret
      exact ⟨ret_bool (by rw [← HL.out, List.drop_of_length_le (by simp)]; rfl), rfl⟩
theorem below_iter (w : World) (s : ByteArray) (p : Nat) : Below w.heap.size w (w.iter s p) := (Below.refl _ _).alloc (Nat.le_refl _) _
set_option maxHeartbeats 1000000 in
theorem isName141 (s : ByteArray) (w : World) (hs : s.size ≤ 9223372036854775807) : Calls Tryz.prog 141 #[.string s] w (Ret (.bool (isName s)) w) := by
  obtain ⟨R, hR⟩ : ∃ R, isName s = R := ⟨_, rfl⟩
  rw [hR]
  have HR := Lib.hid hR
  clear hR
  go_enter Tryz.func141, Tryz.ntmps141
  go_wp2_with fail
  go_loopw [4] (fun _ wr => ∃ k : Nat, k ≤ s.size ∧ wr = w.iter s k ∧ s.data.toList.all okB = (s.data.toList.drop k).all okB) (fun _ wr => s.size - wr.iterPos w.heap.size)
  case atStart => exact ⟨0, by omega, rfl, rfl⟩
  case round =>
    obtain ⟨k, hk, rfl, hrel⟩ := hrel
    have HL := Lib.hid hrel
    clear hrel
    by_cases hlt : k < s.size
    · have hd := Lib.hid (name_all_drop s k hlt)
      by_cases hok : okB s[k] = true
      · have HN : Hid (s.data.toList.all okB = (s.data.toList.drop (k + 1)).all okB) := by have h := HL.out; rw [hd.out, hok, Bool.true_and] at h; exact h
        have hok' : (97 ≤ (s[k].toNat : Int) ∧ (s[k].toNat : Int) ≤ 122) ∨ (65 ≤ (s[k].toNat : Int) ∧ (s[k].toNat : Int) ≤ 90) ∨ (48 ≤ (s[k].toNat : Int) ∧ (s[k].toNat : Int) ≤ 57) ∨ (s[k].toNat : Int) = 45 ∨ (s[k].toNat : Int) = 95 ∨ (s[k].toNat : Int) = 46 := by
          simp only [okB, okC, Bool.or_eq_true, Bool.and_eq_true, decide_eq_true_eq, beq_iff_eq] at hok; omega
        clear hok
        have hnx := fun ty => run_next_ascii (P := Tryz.prog) w s k ty hlt (by omega)
        generalize (s[k].toNat : Int) = c at *
        rcases hok' with ⟨h2, h3⟩ | ⟨h2, h3⟩ | ⟨h2, h3⟩ | h2 | h2 | h2
        all_goals go_wp2_with fail
        all_goals go_roundw
        all_goals first | exact ⟨k + 1, by omega, rfl, HN.out⟩ | (simp only [World.iterPos_iter]; omega)
      · have HF : Hid (s.data.toList.all okB = false) := by have h := HL.out; rw [hd.out, (Bool.not_eq_true _).mp hok, Bool.false_and] at h; exact h
        have hbad : ∃ (c : Int) (p : Nat), (123 ≤ c ∨ (91 ≤ c ∧ c ≤ 94) ∨ (58 ≤ c ∧ c ≤ 64) ∨ c = 47 ∨ c = 96 ∨ c ≤ 44) ∧ ∀ ty, (Instr.next (.pointer (some ⟨w.heap.size, 0, none⟩)) true ty).run Tryz.prog (w.iter s k) = .ok (.tuple #[.bool true, .int .i64 k, .int .i32 c]) (w.iter s p) := by
          by_cases ha : s[k].toNat < 128
          · refine ⟨(s[k].toNat : Int), k + 1, ?_, fun ty => run_next_ascii (P := Tryz.prog) w s k ty hlt ha⟩
            simp only [okB, okC, Bool.or_eq_true, Bool.and_eq_true, decide_eq_true_eq, beq_iff_eq] at hok
            omega
          · exact ⟨_, _, .inl (by have := (decode_high s k hlt (by omega)).1; omega), fun ty => run_next_any (P := Tryz.prog) w s k ty hlt⟩
        clear hok
        obtain ⟨c, p, hc, hnx⟩ := hbad
        have HRF : Hid (R = false) := by have h := HR.out; unfold isName at h; rw [HF.out, Bool.and_false] at h; exact h.symm
        rcases hc with h2 | ⟨h2, h3⟩ | ⟨h2, h3⟩ | h2 | h2 | h2
        all_goals go_wp2_with fail
        all_goals first | (go_ret; exact Ret.mk (congrArg Value.bool HRF.out.symm) (below_iter _ _ _)) | (exfalso; simp only [Bool.not_eq_false', decide_eq_true_eq, bne_eq_false_iff_eq] at *; omega)
    · obtain rfl : s.size = k := by omega
      have HA : Hid (s.data.toList.all okB = true) := by have h := HL.out; rw [List.drop_of_length_le (by simp)] at h; exact h
      have hnx := fun ty => run_next_end (P := Tryz.prog) w s s.size ty hlt
      go_wp2_with fail
      all_goals
        go_ret
        rw [← HR.out]
        refine Ret.mk (congrArg Value.bool ?_) (below_iter _ _ _)
        unfold isName
        rw [HA.out, Bool.and_true, Bool.eq_iff_iff]
        simp only [Bool.and_eq_true, decide_eq_true_eq, Bool.false_eq_true, false_iff]
        omega

theorem drop_eq_drop (a b : List Int) (k : Nat) (ha : k < a.length) (hb : k < b.length) : decide (a.drop k = b.drop k) = (decide (a[k] = b[k]) && decide (a.drop (k + 1) = b.drop (k + 1))) := by
  rw [List.drop_eq_getElem_cons ha, List.drop_eq_getElem_cons hb, Bool.eq_iff_iff]
  simp only [decide_eq_true_eq, Bool.and_eq_true, List.cons.injEq]
set_option maxHeartbeats 400000 in
theorem sameInts40 (v v' : Value) (a b : List Int) (w : World) (hv : Sl encI 1 w w.heap.size v a) (hv' : Sl encI 1 w w.heap.size v' b) : Calls Tryz.prog 40 #[v, v'] w (Ret (.bool (decide (a = b))) w) := by
  obtain ⟨ad, c, rfl, hlen, hA⟩ := hv
  obtain ⟨ad', c', rfl, hlen', hA'⟩ := hv'
  have HA := Lib.hid hA
  clear hA
  have HA' := Lib.hid hA'
  clear hA'
  obtain ⟨R, hR⟩ : ∃ R, decide (a = b) = R := ⟨_, rfl⟩
  rw [hR]
  have HR0 := Lib.hid hR
  clear hR
  go_enter Tryz.func40, Tryz.ntmps40
  by_cases hl : a.length = b.length
  rotate_left
  · go_wp2_with fail
    go_ret
    exact Ret.mk (by rw [← HR0.out]; simp; intro h; exact hl (by rw [h])) (Below.refl _ _)
  have hl1 : a.length ≤ b.length := by omega
  have hl2 : b.length ≤ a.length := by omega
  have hl3 : ((a.length : Int) != (b.length : Int)) = false := by simp [hl]
  clear hl
  go_wp2_with fail
  go_loopw [5] (fun i wr => ∃ k : Nat, k ≤ a.length ∧ i = .int .i64 k ∧ Below w.heap.size w wr ∧ decide (a.drop k = b.drop k) = R) (fun i _ => a.length - (intOf i).toNat)
  case atStart => exact ⟨0, by omega, rfl, Below.refl _ _, HR0.out⟩
  case round =>
    obtain ⟨k, hk, rfl, hbe, hrel⟩ := hrel
    have HR := Lib.hid hrel
    clear hrel
    clear HR0
    by_cases hlt : k < a.length
    · obtain ⟨bb, off, rfl, hbb, hcells⟩ := HA.out (by omega)
      obtain ⟨bb', off', rfl, hbb', hcells'⟩ := HA'.out (by omega)
      have hd := Lib.hid (drop_eq_drop a b k hlt (by omega))
      have c0 := ((hcells k hlt).below hbe hbb).c1
      have c1 := ((hcells' k (by omega)).below hbe hbb').c1
      rw [Nat.mul_one] at c0 c1
      clear hcells HA hcells' HA'
      have hkb : k < b.length := by omega
      have hz := hbe.size
      have hz1 : bb < wr.heap.size := by omega
      have hz2 : bb' < wr.heap.size := by omega
      generalize a[k] = x at *
      generalize b[k] = y at *
      by_cases h2 : x = y
      · subst h2
        go_wp2_with fail
        refine wp_region_later (by kernel_rfl) (by kernel_rfl) ?_
        repeat go_big_quiet_step (fail)
        refine wpQuiet_nil ?_
        rintro w2 ⟨⟨_, hb2⟩, rfl⟩
        go_wp2_with fail
        go_roundw
        case rel => exact ⟨k + 1, by omega, by go_num, hbe.trans (hb2.mono hbe.size), by rw [← HR.out, hd.out]; simp⟩
        case measure => simp [intOf]; omega
      · have hne := bne_iff_ne.2 h2
        go_wp2_with fail
        refine wp_region_later (by kernel_rfl) (by kernel_rfl) ?_
        repeat go_big_quiet_step (fail)
        refine wpQuiet_nil ?_
        rintro w2 ⟨⟨_, hb2⟩, rfl⟩
        go_wp2_with fail
        go_ret
        exact Ret.mk (by rw [← HR.out, hd.out]; simp [h2]) (hbe.trans (hb2.mono hbe.size))
    · obtain rfl : a.length = k := by omega
      go_wp2_with fail
      go_ret
      exact Ret.mk (by rw [← HR.out]; simp; omega) hbe

set_option maxRecDepth 100000 in
set_option maxHeartbeats 1000000 in
theorem isName91 (s : ByteArray) (w : World) (hs : s.size ≤ 9223372036854775807) : Calls Tryz.prog 91 #[.string s] w (Ret (.bool (isName s)) w) := by
  have H := Lib.hid (isName141 s w hs)
  obtain ⟨R, hR⟩ : ∃ R, isName s = R := ⟨_, rfl⟩
  rw [hR] at H ⊢
  clear hR hs
  go_enter Tryz.func91, Tryz.ntmps91
  go_wp2_with (go_at_call 141; refine H.out.mono ?_; rintro e w' ⟨rfl, hb⟩)
  go_ret
  exact ⟨rfl, hb⟩
end Go.Proofs.YtahpdkkpnkhnhaaGreatDoor
