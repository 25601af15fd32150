/- Lemmas on the way to the laws (part 29): Ia Ib Ja -/
import Derived.Test.YtahpdkkpnkhnhaaGreatDoorLib28
import Derived.Test.YtahpdkkpnkhnhaaGreatDoorTie
import Derived.ProofKit
import Derived.LaidMore
import Derived.OpenShut
import Derived.Stop.Joined
import Derived.ChangeStays
import Derived.Lib.SmallJoins
import Derived.Deep.SlicePairs
set_option linter.unusedVariables false
set_option linter.unusedSimpArgs false

/- Walks: heavy. -/
namespace Go.Proofs.YtahpdkkpnkhnhaaGreatDoor
open Go Go.Proofs Go.RowKit Go.Shelf

/-- The length of a slice. -/
def lenW : Value → Nat
  | .slice _ n _ => n
  | _ => 0
/-- Is the plant, or a list, too long for the law? -/
def heavyB (p : Pl) (n1 n2 : Nat) (vs : List Value) : Bool :=
  vs.any (fun v => decide (80 < lenW v)) || ((decide (70 < n1) || decide (260 < n2)) || (p.ms.any (fun m => decide (40 < m.kind.size)) || (decide (ckPlant p = 0) && (decide (9 < n1) || decide (24 < n2)))))
def Val1 (v : Value) : List Value := [v]

set_option maxRecDepth 100000 in
set_option maxHeartbeats 1000000 in
theorem heavy17 (w : World) (a1 a2 u0 : Option Addr) (n1 n2 un c1 c2 uc : Nat) (p : Pl) (vs : List Value) (hn1 : n1 ≤ 9223372036854775807) (hn2 : n2 ≤ 9223372036854775807)
    (hv : n1 ≤ 70 → n2 ≤ 260 → PlR w w.heap.size (.slice a1 n1 c1) (.slice a2 n2 c2) p ∧ p.ms.length = n1 ∧ p.arcs.length = n2 ∧ ∀ m ∈ p.ms, m.kind.size ≤ 9223372036854775807)
    (hu : Sl Val1 1 w w.heap.size (.slice u0 un uc) vs) (hvs : ∀ v ∈ vs, ∃ a n c, v = .slice a n c ∧ n ≤ 9223372036854775807) :
    Calls Tryz.prog 17 #[.agg #[.slice a1 n1 c1, .slice a2 n2 c2], .slice u0 un uc] w (Ret (.bool (heavyB p n1 n2 vs)) w) := by
  have HV := Lib.hid hv
  have HVS := Lib.hid hvs
  clear hv hvs
  obtain ⟨u0', uc', e', hlen, hA⟩ := hu
  simp only [Value.slice.injEq] at e'
  obtain ⟨rfl, hn, rfl⟩ := e'
  obtain ⟨n, hnu⟩ : ∃ n, un = n := ⟨_, rfl⟩
  rw [hnu] at hn ⊢
  have HA := Lib.hid hA
  have HN := Lib.hid hn.symm
  rw [← hn] at hlen
  clear hA hn hnu
  obtain ⟨R, hR⟩ : ∃ R, heavyB p n1 n2 vs = R := ⟨_, rfl⟩
  rw [hR]
  unfold heavyB at hR
  have HR := Lib.hid hR
  clear hR
  have HB := Lib.hid ((Below.refl w.heap.size w).alloc (Nat.le_refl _) (.cells #[.slice a1 n1 c1, .slice a2 n2 c2] 25))
  have HX := Lib.hid (Box.new w #[.slice a1 n1 c1, .slice a2 n2 c2] 25)
  obtain ⟨T, hT⟩ : ∃ T, ((decide (70 < n1) || decide (260 < n2)) || (p.ms.any (fun m => decide (40 < m.kind.size)) || (decide (ckPlant p = 0) && (decide (9 < n1) || decide (24 < n2))))) = T := ⟨_, rfl⟩
  rw [hT] at HR
  have HT := Lib.hid hT
  clear hT
  go_enter Tryz.func17, Tryz.ntmps17
  go_wp2_with fail
  go_loopw [5] (fun j wr => ∃ k : Nat, k ≤ n ∧ j = .int .i64 k ∧ Below w.heap.size w wr ∧ Box wr w.heap.size 25 [.slice a1 n1 c1, .slice a2 n2 c2] ∧ ((vs.drop k).any (fun v => decide (80 < lenW v)) || T) = R) (fun j _ => n - (intOf j).toNat)
  case atStart => exact ⟨0, by omega, rfl, HB.out, HX.out, HR.out⟩
  case round =>
    clear HB HX HR
    obtain ⟨k, hk, rfl, hbe, hx, hrel⟩ := hrel
    have HL := Lib.hid hrel
    have HBE := Lib.hid hbe
    have HXE := Lib.hid hx
    clear hrel
    by_cases hlt : k < n
    · have hkl : k < vs.length := by rw [HN.out]; exact hlt
      obtain ⟨b, off, rfl, hbb, hcells⟩ := HA.out (by have := HN.out; omega)
      have c0 := ((hcells k hkl).below hbe hbb)
      obtain ⟨ax, nx, cx, hx1, hx2⟩ := HVS.out _ (List.getElem_mem hkl)
      have HD := Lib.hid (show (decide (80 < nx) || ((vs.drop (k + 1)).any (fun v => decide (80 < lenW v)) || T)) = R by
        have h := HL.out
        rw [List.drop_eq_getElem_cons hkl, List.any_cons, hx1, Bool.or_assoc] at h
        exact h)
      rw [hx1] at c0
      have c0 := At.c1 c0
      rw [Nat.mul_one] at c0
      have hbz : b < wr.heap.size := by have := hbe.size; omega
      clear hcells hbe hx hx1 HL
      by_cases h8 : 80 < nx
      · have HV2 := Lib.hid (show R = true by rw [← HD.out, decide_eq_true h8]; rfl)
        have d0 : decide ((80 : Int) < (nx : Int)) = true := decide_eq_true (by omega)
        clear h8
        go_wp2_with fail
        go_ret
        exact ⟨by rw [HV2.out]; rfl, HBE.out⟩
      · have HV2 := Lib.hid (show ((vs.drop (k + 1)).any (fun v => decide (80 < lenW v)) || T) = R by rw [← HD.out, decide_eq_false h8]; rfl)
        have d0 : decide ((80 : Int) < (nx : Int)) = false := decide_eq_false (by omega)
        clear h8
        go_wp2_with fail
        go_roundw
        case rel => exact ⟨k + 1, by omega, by go_num, HBE.out, HXE.out, HV2.out⟩
        case measure => simp [intOf]; omega
    · obtain rfl : n = k := by omega
      have HT0 := Lib.hid (show T = R by rw [← HL.out, ← HN.out, List.drop_length]; rfl)
      obtain ⟨x0, x1, xf, xz⟩ := hx.v2
      clear hx HL HA HVS hbe
      by_cases h70 : 70 < n1
      · have HV2 := Lib.hid (show R = true by rw [← HT0.out, ← HT.out, decide_eq_true h70]; rfl)
        have d0 : decide ((70 : Int) < (n1 : Int)) = true := decide_eq_true (by omega)
        clear h70
        go_wp2_with fail
        go_ret
        exact ⟨by rw [HV2.out]; rfl, HBE.out⟩
      have d0 : decide ((70 : Int) < (n1 : Int)) = false := decide_eq_false (by omega)
      by_cases h26 : 260 < n2
      · have HV2 := Lib.hid (show R = true by rw [← HT0.out, ← HT.out, decide_eq_true h26, Bool.or_true]; rfl)
        have d1 : decide ((260 : Int) < (n2 : Int)) = true := decide_eq_true (by omega)
        clear h26 h70
        go_wp2_with fail
        go_ret
        exact ⟨by rw [HV2.out]; rfl, HBE.out⟩
      have d1 : decide ((260 : Int) < (n2 : Int)) = false := decide_eq_false (by omega)
      obtain ⟨hp, hp1, hp2, hks⟩ := HV.out (by omega) (by omega)
      have HT1 := Lib.hid (show (p.ms.any (fun m => decide (40 < m.kind.size)) || (decide (ckPlant p = 0) && (decide (9 < n1) || decide (24 < n2)))) = R by rw [← HT0.out, ← HT.out, decide_eq_false h70, decide_eq_false h26]; rfl)
      have HP := Lib.hid hp
      have HP1 := Lib.hid hp1
      have HKS := Lib.hid hks
      obtain ⟨Q, hQ⟩ : ∃ Q, (decide (ckPlant p = 0) && (decide (9 < n1) || decide (24 < n2))) = Q := ⟨_, rfl⟩
      rw [hQ] at HT1
      have HQ := Lib.hid hQ
      clear hp hp1 hp2 hks hQ h70 h26 HT HT0 HV
      have hwz := HBE.out.size
      go_wp2_with fail
      go_loopw [6] (fun j wr' => ∃ k : Nat, k ≤ n1 ∧ j = .int .i64 k ∧ Below w.heap.size w wr' ∧ Box wr' w.heap.size 25 [.slice a1 n1 c1, .slice a2 n2 c2] ∧ ((p.ms.drop k).any (fun m => decide (40 < m.kind.size)) || Q) = R) (fun j _ => n1 - (intOf j).toNat)
      case atStart => exact ⟨0, by omega, rfl, HBE.out, HXE.out, HT1.out⟩
      case round =>
        clear HBE HXE HT1 x0 x1 xf xz
        obtain ⟨k, hk, rfl, hbe, hx, hrel⟩ := hrel
        have HL := Lib.hid hrel
        have HBE := Lib.hid hbe
        have HXE := Lib.hid hx
        clear hrel
        obtain ⟨x0, x1, xf, xz⟩ := hx.v2
        by_cases hlt : k < n1
        · have hkl : k < p.ms.length := by rw [HP1.out]; exact hlt
          obtain ⟨⟨a1', c1', e1', _, hA1⟩, _⟩ := HP.out
          simp only [Value.slice.injEq] at e1'
          obtain ⟨rfl, hnn, rfl⟩ := e1'
          clear hnn
          obtain ⟨b, off, rfl, hbb, hcells⟩ := hA1 (by omega)
          obtain ⟨m0, m1⟩ := ((hcells k hkl).below hbe hbb).c2
          have hbz : b < wr.heap.size := by have := hbe.size; omega
          have hks := HKS.out _ (List.getElem_mem hkl)
          have HD := Lib.hid (show (decide (40 < p.ms[k].kind.size) || ((p.ms.drop (k + 1)).any (fun m => decide (40 < m.kind.size)) || Q)) = R by
            have h := HL.out
            rw [List.drop_eq_getElem_cons hkl, List.any_cons, Bool.or_assoc] at h
            exact h)
          clear hA1 hcells hbe hx HL
          generalize p.ms[k] = mc at *
          obtain ⟨s, t⟩ := mc
          dsimp only at m0 m1 hks HD
          by_cases h8 : 40 < s.size
          · have HV2 := Lib.hid (show R = true by rw [← HD.out, decide_eq_true h8]; rfl)
            have d2 : decide ((40 : Int) < (s.size : Int)) = true := decide_eq_true (by omega)
            clear h8
            go_wp2_with fail
            go_ret
            exact ⟨by rw [HV2.out]; rfl, HBE.out⟩
          · have HV2 := Lib.hid (show ((p.ms.drop (k + 1)).any (fun m => decide (40 < m.kind.size)) || Q) = R by rw [← HD.out, decide_eq_false h8]; rfl)
            have d2 : decide ((40 : Int) < (s.size : Int)) = false := decide_eq_false (by omega)
            clear h8
            go_wp2_with fail
            go_roundw
            case rel => exact ⟨k + 1, by omega, by go_num, HBE.out, HXE.out, HV2.out⟩
            case measure => simp [intOf]; omega
        · obtain rfl : n1 = k := by omega
          have HQR := Lib.hid (show Q = R by rw [← HL.out, ← HP1.out, List.drop_length]; rfl)
          have HCK := Lib.hid (ckPlant19 wr _ _ p (HP.out.later hbe))
          clear hx HL hbe
          obtain ⟨cp, hcp⟩ : ∃ c, ckPlant p = c := ⟨_, rfl⟩
          rw [hcp] at HCK HQ
          clear hcp
          by_cases hc : cp = 0
          · subst hc
            by_cases h9 : 9 < n1
            · have d2 : decide ((9 : Int) < (n1 : Int)) = true := decide_eq_true (by omega)
              have HV2 := Lib.hid (show R = true by rw [← HQR.out, ← HQ.out, decide_eq_true h9]; rfl)
              clear h9
              go_wp2_with fail
              refine HCK.out.mono ?_
              rintro e w3 ⟨rfl, hb3⟩
              have HB3 := Lib.hid (HBE.out.trans (hb3.mono HBE.out.size))
              obtain ⟨y0, y1, yf, yz⟩ := (HXE.out.later hb3).v2
              clear hb3
              go_wp2_with fail
              go_ret
              exact ⟨by rw [HV2.out]; rfl, HB3.out⟩
            · have d2 : decide ((9 : Int) < (n1 : Int)) = false := decide_eq_false (by omega)
              obtain ⟨g, hg⟩ : ∃ g, decide ((24 : Int) < (n2 : Int)) = g := ⟨_, rfl⟩
              have HV2 := Lib.hid (show R = g by
                rw [← HQR.out, ← HQ.out, decide_eq_false h9, ← hg]
                simp only [decide_true, Bool.true_and, Bool.false_or, decide_eq_decide]
                omega)
              clear h9
              go_wp2_with fail
              refine HCK.out.mono ?_
              rintro e w3 ⟨rfl, hb3⟩
              have HB3 := Lib.hid (HBE.out.trans (hb3.mono HBE.out.size))
              obtain ⟨y0, y1, yf, yz⟩ := (HXE.out.later hb3).v2
              clear hb3
              go_wp2_with fail
              go_ret
              exact ⟨by rw [HV2.out]; rfl, HB3.out⟩
          · have HV2 := Lib.hid (show R = false by rw [← HQR.out, ← HQ.out, decide_eq_false hc]; rfl)
            have k0 : (cp == 0) = false := by simpa using hc
            clear hc
            go_wp2_with fail
            refine HCK.out.mono ?_
            rintro e w3 ⟨rfl, hb3⟩
            have HB3 := Lib.hid (HBE.out.trans (hb3.mono HBE.out.size))
            obtain ⟨y0, y1, yf, yz⟩ := (HXE.out.later hb3).v2
            clear hb3
            go_wp2_with fail
            go_ret
            exact ⟨by rw [HV2.out]; rfl, HB3.out⟩
end Go.Proofs.YtahpdkkpnkhnhaaGreatDoor

/- Walks: the law PathPlants. -/
namespace Go.Proofs.YtahpdkkpnkhnhaaGreatDoor
open Go Go.Proofs Go.RowKit Go.Shelf

theorem heavyB_no {p : Pl} {n1 n2 : Nat} {vs : List Value} (h : heavyB p n1 n2 vs = false) : (∀ v ∈ vs, lenW v ≤ 80) ∧ n1 ≤ 70 ∧ n2 ≤ 260 ∧ (∀ m ∈ p.ms, m.kind.size ≤ 40) ∧ (ckPlant p = 0 → n1 ≤ 9 ∧ n2 ≤ 24) := by
  unfold heavyB at h
  simp only [Bool.or_eq_false_iff, List.any_eq_false, decide_eq_true_eq, decide_eq_false_iff_not, Bool.and_eq_false_iff, Nat.not_lt] at h
  obtain ⟨h1, ⟨h2, h3⟩, h4, h5⟩ := h
  refine ⟨h1, h2, h3, h4, fun hc => ?_⟩
  rcases h5 with h5 | h5
  · exact absurd hc h5
  · exact h5
theorem Sl.one {w : World} {v : Value} {e : TypeId} {g : Nat} (hg : w.heap.size = g) : Sl Val1 1 (w.alloc (.cells #[v] e)) (w.alloc (.cells #[v] e)).heap.size (.slice (some ⟨g, 0, none⟩) 1 1) [v] :=
  Sl.litAt (f := Val1) (sz := 1) (fun _ => rfl) [v] w #[v] e 1 g hg rfl rfl (by simp)

set_option maxRecDepth 100000 in
set_option maxHeartbeats 1000000 in
theorem plants5 (w : World) (a1 a2 a3 : Option Addr) (n1 n2 n3 c1 c2 c3 : Nat) (p : Pl) (l : List Int) (hwd : WdR w) (hn1 : n1 ≤ 9223372036854775807) (hn2 : n2 ≤ 9223372036854775807) (hn3 : n3 ≤ 9223372036854775807)
    (hv : n1 ≤ 70 → n2 ≤ 260 → PlR w w.heap.size (.slice a1 n1 c1) (.slice a2 n2 c2) p ∧ p.ms.length = n1 ∧ p.arcs.length = n2 ∧ ∀ m ∈ p.ms, m.kind.size ≤ 9223372036854775807)
    (hl : n3 ≤ 80 → Sl encI 1 w w.heap.size (.slice a3 n3 c3) l) :
    Calls Tryz.prog 5 #[.agg #[.slice a1 n1 c1, .slice a2 n2 c2], .slice a3 n3 c3] w (Ret (.bool true) w) := by
  obtain ⟨g, hg⟩ : ∃ g, heavyB p n1 n2 [.slice a3 n3 c3] = g := ⟨_, rfl⟩
  have HH := Lib.hid (fun (w1 : World) (hb : Below w.heap.size w w1) (u : Option Addr) (hu : Sl Val1 1 w1 w1.heap.size (.slice u 1 1) [.slice a3 n3 c3]) => heavy17 w1 a1 a2 u n1 n2 1 c1 c2 1 p [.slice a3 n3 c3] hn1 hn2 (fun x y => ⟨(hv x y).1.later hb, (hv x y).2⟩) hu (by
    intro v hv
    rw [List.mem_singleton] at hv
    subst hv
    exact ⟨_, _, _, rfl, hn3⟩))
  rw [hg] at HH
  have HG := Lib.hid hg
  have HWD := Lib.hid hwd
  have HV := Lib.hid hv
  have HLL := Lib.hid hl
  clear hwd hv hl hg
  have HB := Lib.hid ((Below.refl w.heap.size w).alloc (Nat.le_refl _) (.cells #[.slice a1 n1 c1, .slice a2 n2 c2] 25))
  have HX := Lib.hid (Box.new w #[.slice a1 n1 c1, .slice a2 n2 c2] 25)
  go_enter Tryz.func5, Tryz.ntmps5
  go_wp2_with fail
  refine (awake16 _ (HWD.out.later HB.out)).mono ?_
  rintro e w2 ⟨rfl, hb2⟩
  have HB2 := Lib.hid (HB.out.trans (hb2.mono HB.out.size))
  have HX2 := Lib.hid (HX.out.later hb2)
  obtain ⟨x0, x1, xf, xz⟩ := HX2.out.v2
  clear hb2 HB HX
  go_wp2_with fail
  have hba : Below w2.heap.size w2 (w2.alloc (.cells #[.slice a3 n3 c3] 26)) := (Below.refl _ _).alloc (Nat.le_refl _) _
  have HBa := Lib.hid (HB2.out.trans (hba.mono HB2.out.size))
  have HXa := Lib.hid (HX2.out.later hba)
  clear hba HB2 HX2 x0 x1 xf xz
  refine (HH.out _ HBa.out _ (Sl.one rfl)).mono ?_
  rintro e w3 ⟨rfl, hb3⟩
  have HB3 := Lib.hid (HBa.out.trans (hb3.mono HBa.out.size))
  have HX3 := Lib.hid (HXa.out.later hb3)
  obtain ⟨x0, x1, xf, xz⟩ := HX3.out.v2
  clear hb3 HBa HXa
  cases g with
  | true =>
    go_wp2_with fail
    refine (awake16 _ (HWD.out.later HB3.out)).mono ?_
    rintro e w4 ⟨rfl, hb4⟩
    have HB4 := Lib.hid (HB3.out.trans (hb4.mono HB3.out.size))
    go_wp2_with fail
    go_ret
    exact ⟨rfl, HB4.out⟩
  | false =>
    obtain ⟨q1, q2, q3, _, _⟩ := heavyB_no HG.out
    obtain ⟨hpl, hm1, hm2, _⟩ := HV.out q2 q3
    have hsl := HLL.out (q1 _ (List.mem_singleton.2 rfl))
    clear HV HLL HG q1 q2 q3
    have C19 := Lib.hid (fun (w1 : World) (hb : Below w.heap.size w w1) => ckPlant19 w1 _ _ p (hpl.later hb))
    have C32 := Lib.hid (fun (w1 : World) (hb : Below w.heap.size w w1) => ckPlant32 w1 _ _ p (HWD.out.later hb) (hpl.later hb))
    have C33 := Lib.hid (fun (w1 : World) (hb : Below w.heap.size w w1) => isPath33 w1 _ _ _ p l (HWD.out.later hb) (hpl.later hb) (hsl.later hb))
    have C34 := Lib.hid (fun (w1 : World) (hb : Below w.heap.size w w1) => time34 w1 _ _ _ p l (HWD.out.later hb) (hpl.later hb) (hsl.later hb))
    have C22 := Lib.hid (fun (w1 : World) (hb : Below w.heap.size w w1) => checkPath22 w1 _ _ _ p l (hpl.later hb) (hsl.later hb))
    have C23 := Lib.hid (fun (w1 : World) (hb : Below w.heap.size w w1) hin ht => time23 w1 _ _ _ p l (hpl.later hb) (hsl.later hb) hin ht)
    clear hpl hsl hm1 hm2
    have HC23 : Hid (ckPlant p = 0 → ∀ m ∈ p.ms, 0 ≤ m.time ∧ m.time ≤ 100000) := Lib.hid (fun h => (ckPlant_ok h).times)
    obtain ⟨cp, hcp⟩ : ∃ c, ckPlant p = c := ⟨_, rfl⟩
    by_cases hc0 : cp = 0
    rotate_left
    · have v1 : isPathV p l = (false, cp) := by unfold isPathV; rw [hcp, if_pos hc0]
      have v2 : timeV p l = (0, cp) := by unfold timeV; rw [hcp, if_pos hc0]
      rw [hcp] at C19 C32
      rw [v1] at C33
      rw [v2] at C34
      have k0 : (cp != 0) = true := by simpa using hc0
      clear v1 v2 hcp hc0 C22 C23 HC23
      go_wp2_with fail
      refine (C19.out _ HB3.out).mono ?_
      rintro e w4 ⟨rfl, hb4⟩
      have HB4 := Lib.hid (HB3.out.trans (hb4.mono HB3.out.size))
      have HX4 := Lib.hid (HX3.out.later hb4)
      clear x0 x1 xf xz
      obtain ⟨x0, x1, xf, xz⟩ := HX4.out.v2
      clear hb4 HB3 HX3
      go_wp2_with fail
      refine (C32.out _ HB4.out).mono ?_
      rintro e w5 ⟨rfl, hb5⟩
      have HB5 := Lib.hid (HB4.out.trans (hb5.mono HB4.out.size))
      have HX5 := Lib.hid (HX4.out.later hb5)
      clear x0 x1 xf xz
      obtain ⟨x0, x1, xf, xz⟩ := HX5.out.v2
      clear hb5 HB4 HX4
      go_wp2_with fail
      refine (C33.out _ HB5.out).mono ?_
      rintro e w6 ⟨rfl, hb6⟩
      have HB6 := Lib.hid (HB5.out.trans (hb6.mono HB5.out.size))
      have HX6 := Lib.hid (HX5.out.later hb6)
      clear x0 x1 xf xz
      obtain ⟨x0, x1, xf, xz⟩ := HX6.out.v2
      clear hb6 HB5 HX5
      go_wp2_with fail
      refine (C34.out _ HB6.out).mono ?_
      rintro e w7 ⟨rfl, hb7⟩
      have HB7 := Lib.hid (HB6.out.trans (hb7.mono HB6.out.size))
      have HX7 := Lib.hid (HX6.out.later hb7)
      clear x0 x1 xf xz
      obtain ⟨x0, x1, xf, xz⟩ := HX7.out.v2
      clear hb7 HB6 HX6
      go_wp2_with fail
      go_ret
      exact ⟨rfl, HB7.out⟩
    subst hc0
    rw [hcp] at C19 C32
    have HC23 := Lib.hid (HC23.out hcp)
    cases hq : l.any (fun x => !inN p.ms.length x) with
    | true =>
      have v1 : isPathV p l = (false, 10) := by unfold isPathV; rw [hcp, if_neg (by simp), unkE_t hq, if_pos (by simp)]
      have v2 : timeV p l = (0, 10) := by unfold timeV; rw [hcp, if_neg (by simp), pathE_unk hq, if_pos (by simp)]
      rw [v1] at C33
      rw [v2] at C34
      rw [pathE_unk hq] at C22
      clear v1 v2 hcp hq C23 HC23
      go_wp2_with fail
      refine (C19.out _ HB3.out).mono ?_
      rintro e w4 ⟨rfl, hb4⟩
      have HB4 := Lib.hid (HB3.out.trans (hb4.mono HB3.out.size))
      have HX4 := Lib.hid (HX3.out.later hb4)
      clear x0 x1 xf xz
      obtain ⟨x0, x1, xf, xz⟩ := HX4.out.v2
      clear hb4 HB3 HX3
      go_wp2_with fail
      refine (C32.out _ HB4.out).mono ?_
      rintro e w5 ⟨rfl, hb5⟩
      have HB5 := Lib.hid (HB4.out.trans (hb5.mono HB4.out.size))
      have HX5 := Lib.hid (HX4.out.later hb5)
      clear x0 x1 xf xz
      obtain ⟨x0, x1, xf, xz⟩ := HX5.out.v2
      clear hb5 HB4 HX4
      go_wp2_with fail
      refine (C33.out _ HB5.out).mono ?_
      rintro e w6 ⟨rfl, hb6⟩
      have HB6 := Lib.hid (HB5.out.trans (hb6.mono HB5.out.size))
      have HX6 := Lib.hid (HX5.out.later hb6)
      clear x0 x1 xf xz
      obtain ⟨x0, x1, xf, xz⟩ := HX6.out.v2
      clear hb6 HB5 HX5
      go_wp2_with fail
      refine (C34.out _ HB6.out).mono ?_
      rintro e w7 ⟨rfl, hb7⟩
      have HB7 := Lib.hid (HB6.out.trans (hb7.mono HB6.out.size))
      have HX7 := Lib.hid (HX6.out.later hb7)
      clear x0 x1 xf xz
      obtain ⟨x0, x1, xf, xz⟩ := HX7.out.v2
      clear hb7 HB6 HX6
      go_wp2_with fail
      refine (C22.out _ HB7.out).mono ?_
      rintro e w8 ⟨rfl, hb8⟩
      have HB8 := Lib.hid (HB7.out.trans (hb8.mono HB7.out.size))
      have HX8 := Lib.hid (HX7.out.later hb8)
      clear x0 x1 xf xz
      obtain ⟨x0, x1, xf, xz⟩ := HX8.out.v2
      clear hb8 HB7 HX7
      go_wp2_with fail
      go_ret
      exact ⟨rfl, HB8.out⟩
    | false =>
      have HIN := Lib.hid (unk_in hq)
      cases hr : pathB p l with
      | false =>
        have v0 : pathE p l = 1 := by rw [pathE_in hq, hr]; rfl
        have v1 : isPathV p l = (false, 0) := by unfold isPathV; rw [hcp, if_neg (by simp), unkE_f hq, if_neg (by simp), hr]
        have v2 : timeV p l = (0, 1) := by unfold timeV; rw [hcp, if_neg (by simp), v0, if_pos (by simp)]
        rw [v1] at C33
        rw [v2] at C34
        rw [v0] at C22
        clear v0 v1 v2 hcp hq hr C23 HC23 HIN
        go_wp2_with fail
        refine (C19.out _ HB3.out).mono ?_
        rintro e w4 ⟨rfl, hb4⟩
        have HB4 := Lib.hid (HB3.out.trans (hb4.mono HB3.out.size))
        have HX4 := Lib.hid (HX3.out.later hb4)
        clear x0 x1 xf xz
        obtain ⟨x0, x1, xf, xz⟩ := HX4.out.v2
        clear hb4 HB3 HX3
        go_wp2_with fail
        refine (C32.out _ HB4.out).mono ?_
        rintro e w5 ⟨rfl, hb5⟩
        have HB5 := Lib.hid (HB4.out.trans (hb5.mono HB4.out.size))
        have HX5 := Lib.hid (HX4.out.later hb5)
        clear x0 x1 xf xz
        obtain ⟨x0, x1, xf, xz⟩ := HX5.out.v2
        clear hb5 HB4 HX4
        go_wp2_with fail
        refine (C33.out _ HB5.out).mono ?_
        rintro e w6 ⟨rfl, hb6⟩
        have HB6 := Lib.hid (HB5.out.trans (hb6.mono HB5.out.size))
        have HX6 := Lib.hid (HX5.out.later hb6)
        clear x0 x1 xf xz
        obtain ⟨x0, x1, xf, xz⟩ := HX6.out.v2
        clear hb6 HB5 HX5
        go_wp2_with fail
        refine (C34.out _ HB6.out).mono ?_
        rintro e w7 ⟨rfl, hb7⟩
        have HB7 := Lib.hid (HB6.out.trans (hb7.mono HB6.out.size))
        have HX7 := Lib.hid (HX6.out.later hb7)
        clear x0 x1 xf xz
        obtain ⟨x0, x1, xf, xz⟩ := HX7.out.v2
        clear hb7 HB6 HX6
        go_wp2_with fail
        refine (C22.out _ HB7.out).mono ?_
        rintro e w8 ⟨rfl, hb8⟩
        have HB8 := Lib.hid (HB7.out.trans (hb8.mono HB7.out.size))
        have HX8 := Lib.hid (HX7.out.later hb8)
        clear x0 x1 xf xz
        obtain ⟨x0, x1, xf, xz⟩ := HX8.out.v2
        clear hb8 HB7 HX7
        go_wp2_with fail
        go_ret
        exact ⟨rfl, HB8.out⟩
      | true =>
        have v0 : pathE p l = 0 := by rw [pathE_in hq, hr]; rfl
        have v1 : isPathV p l = (true, 0) := by unfold isPathV; rw [hcp, if_neg (by simp), unkE_f hq, if_neg (by simp), hr]
        have v2 : timeV p l = (tSum p l, 0) := by unfold timeV; rw [hcp, if_neg (by simp), v0, if_neg (by simp)]
        rw [v1] at C33
        rw [v2] at C34
        rw [v0] at C22
        have C23 := Lib.hid (fun (w1 : World) (hb : Below w.heap.size w w1) => C23.out w1 hb HIN.out HC23.out)
        obtain ⟨ts, hts⟩ : ∃ t, tSum p l = t := ⟨_, rfl⟩
        rw [hts] at C34 C23
        clear v0 v1 v2 hcp hq hr HC23 HIN hts
        go_wp2_with fail
        refine (C19.out _ HB3.out).mono ?_
        rintro e w4 ⟨rfl, hb4⟩
        have HB4 := Lib.hid (HB3.out.trans (hb4.mono HB3.out.size))
        have HX4 := Lib.hid (HX3.out.later hb4)
        clear x0 x1 xf xz
        obtain ⟨x0, x1, xf, xz⟩ := HX4.out.v2
        clear hb4 HB3 HX3
        go_wp2_with fail
        refine (C32.out _ HB4.out).mono ?_
        rintro e w5 ⟨rfl, hb5⟩
        have HB5 := Lib.hid (HB4.out.trans (hb5.mono HB4.out.size))
        have HX5 := Lib.hid (HX4.out.later hb5)
        clear x0 x1 xf xz
        obtain ⟨x0, x1, xf, xz⟩ := HX5.out.v2
        clear hb5 HB4 HX4
        go_wp2_with fail
        refine (C33.out _ HB5.out).mono ?_
        rintro e w6 ⟨rfl, hb6⟩
        have HB6 := Lib.hid (HB5.out.trans (hb6.mono HB5.out.size))
        have HX6 := Lib.hid (HX5.out.later hb6)
        clear x0 x1 xf xz
        obtain ⟨x0, x1, xf, xz⟩ := HX6.out.v2
        clear hb6 HB5 HX5
        go_wp2_with fail
        refine (C34.out _ HB6.out).mono ?_
        rintro e w7 ⟨rfl, hb7⟩
        have HB7 := Lib.hid (HB6.out.trans (hb7.mono HB6.out.size))
        have HX7 := Lib.hid (HX6.out.later hb7)
        clear x0 x1 xf xz
        obtain ⟨x0, x1, xf, xz⟩ := HX7.out.v2
        clear hb7 HB6 HX6
        go_wp2_with fail
        refine (C22.out _ HB7.out).mono ?_
        rintro e w8 ⟨rfl, hb8⟩
        have HB8 := Lib.hid (HB7.out.trans (hb8.mono HB7.out.size))
        have HX8 := Lib.hid (HX7.out.later hb8)
        clear x0 x1 xf xz
        obtain ⟨x0, x1, xf, xz⟩ := HX8.out.v2
        clear hb8 HB7 HX7
        go_wp2_with fail
        refine (C23.out _ HB8.out).mono ?_
        rintro e w9 ⟨rfl, hb9⟩
        have HB9 := Lib.hid (HB8.out.trans (hb9.mono HB8.out.size))
        have HX9 := Lib.hid (HX8.out.later hb9)
        clear x0 x1 xf xz
        obtain ⟨x0, x1, xf, xz⟩ := HX9.out.v2
        clear hb9 HB8 HX8
        go_wp2_with fail
        go_ret
        exact ⟨rfl, HB9.out⟩
end Go.Proofs.YtahpdkkpnkhnhaaGreatDoor

/- What the rows of the laws need, whatever the law: arguments opened, and read again behind the call; the laid table of words. -/
namespace Go.Proofs.YtahpdkkpnkhnhaaGreatDoor
open Go Go.Proofs Go.RowKit Go.ChangeShapes Go.WideShapes Go.ChangeAt Go.Joins Go.Deep

theorem Tryz.own : ownKnob Tryz.prog.godebug = none := by kernel_rfl
theorem Tryz.kids : Kids Tryz.prog (· < Tryz.prog.types.size) := kids_rows (by kernel_rfl) (by kernel_rfl)
theorem Tryz.full : ∀ t e, t < Tryz.prog.types.size → Tryz.prog.underlying t = some (.slice e) → 0 < Tryz.prog.cellsOf e := slices_full_of Tryz.prog (by kernel_rfl)
theorem gWords : Tryz.prog.globalNamed "bushel/path.words" = some 0 := by kernel_rfl
theorem tWords : (Tryz.prog.globals[0]?).map (·.type) = some 173 := by kernel_rfl
def laidP : List (String × DataW Unit) := [("bushel/path.words", Rows.laid_bushel_path_words)]
/-- The door's own heap meets the condition: three closed facts. -/
theorem door_met (os : Os) (args : Array Value) : laidMetH Tryz.prog laidP ((World.doorLaid Tryz.prog 400 os).forCall (fun _ _ => 0) ⟨#[], args, []⟩).memory :=
  laidMetH_of_parts3 (fuel := 8) (laidMet_of_run' 8 (by kernel_rfl) (by kernel_rfl)) (by kernel_rfl) (by kernel_rfl)

section
variable {H : Type} {enc : TypeId × Value → H} {W W' : World}
/-- What lies in old memory reads as it read. -/
theorem stays {t : TypeId} (ht : t < Tryz.prog.types.size) (hb : Below W.heap.size W W') {v : Value} {d : DataW H} {p : List MemPlace} (h : DataW.Trod enc Tryz.prog W 0 (fun _ => true) true t v d p) (sp : Nat → Bool) (hs : ∀ q ∈ p, sp q.block = true) :
    DataW.Trod enc Tryz.prog W' 0 sp true t v d p := by
  obtain ⟨n, hn⟩ := h
  exact ⟨n, DataW.trod_stays Tryz.kids (fun a b => Tryz.full _ _ a b) (fun e => by cases e) ht hn (fun q hq => hb.same (DataW.trod_lt n _ _ _ hn q hq)) hs⟩
theorem allStay (hb : Below W.heap.size W W') (sp : Nat → Bool) : ∀ {ts : List TypeId} {vs : List Value} {ds : List (DataW H)} {p : List MemPlace}, (∀ t ∈ ts, t < Tryz.prog.types.size) → (∀ q ∈ p, sp q.block = true) →
    DataW.TrodAll enc Tryz.prog W 0 (fun _ => true) true ts vs ds p → DataW.TrodAll enc Tryz.prog W' 0 sp true ts vs ds p
  | [], [], [], _, _, _, h => h
  | _ :: _, _ :: _, _ :: _, _, ht, hs, ⟨p, q, h1, h2, e⟩ =>
    ⟨p, q, stays (ht _ (by simp)) hb h1 sp (fun x hx => hs x (by rw [e]; simp [hx])), allStay hb sp (fun t h => ht t (by simp [h])) (fun x hx => hs x (by rw [e]; simp [hx])) h2, e⟩
/-- A law's call: it returned true, and what was there is as it was. -/
theorem law_post {f : Func} {s : ChangeSpec} {args : Array Value} {ds gs : List (DataW H)} {before : List MemPlace} (hs : s.vars = []) (hr : f.resultTypes.toList = [4]) (hsz : f.resultTypes.size = 1) (hT : ∀ t ∈ f.params.toList, t < Tryz.prog.types.size)
    (hW : DataW.Whole enc Tryz.prog f.params.toList s.vars false W args.toList ds gs before) (h1 : (s.fn H ds).results = [.lit (.bool true)]) (h2 : (s.fn H ds).args = ds) (h3 : (s.fn H ds).vars = []) (hb : Below W.heap.size W W') :
    s.post enc Tryz.prog f false true false false W args (.bool true) W' := by
  have hlt := hW.lt
  have hW0 := hW
  obtain ⟨p, q, hA, hV, rfl, hz, hn⟩ := hW
  rw [hs] at hV
  obtain ⟨rfl, rfl⟩ := trodVars_none hV
  rw [List.append_nil] at hlt hW0
  refine ⟨ds, [], p, [], p, [], hW0, ?_, ?_, ?_, World.keptBut_mono (fun x hx => ⟨hx, .inr (.inl hx)⟩) (hb.frame (· ∈ p)), fun e => by cases e⟩
  · rw [List.append_nil, h1, hr, hsz]
    exact trodAll_mk1 (shut_bool Tryz.underlying4 true)
  · rw [List.append_nil, h2]
    exact allStay hb _ hT (fun x hx => by simpa using hlt x hx) hA
  · rw [List.append_nil, h3, hs]
    rfl
theorem add_at (b off i : Nat) : (⟨b, off, none⟩ : Addr).add i = ⟨b, off + i, none⟩ := add_plain _ _ _
/-- A list of n elements, each known by its cells. -/
theorem sl_make {α : Type} (f : α → List Value) (sz : Nat) (hsz : 0 < sz) (hf : ∀ x, (f x).length = sz) {n c : Nat} {a : Addr} (hn : n ≤ 1000000000) (hc : n ≤ c) (x0 : α)
    (Q : α → Prop) (hx : ∀ i, i < n → ∃ x : α, (∀ j u, (f x)[j]? = some u → W.cell? (a.add (i * sz + j)) = some u) ∧ Q x) :
    ∃ l : List α, l.length = n ∧ Sl f sz W W.heap.size (.slice (some a) n c) l ∧ ∀ x ∈ l, Q x := by
  have hch : ∃ g : Nat → α, ∀ i, i < n → (∀ j u, (f (g i))[j]? = some u → W.cell? (a.add (i * sz + j)) = some u) ∧ Q (g i) := by
    refine ⟨fun i => if h : i < n then Classical.choose (hx i h) else x0, fun i hi => ?_⟩
    simp only [dif_pos hi]
    exact Classical.choose_spec (hx i hi)
  obtain ⟨g, hg⟩ := hch
  have hl : ((List.range n).map g).length = n := by simp
  refine ⟨(List.range n).map g, hl, ⟨some a, c, by rw [hl], by rw [hl]; exact ⟨hn, hc⟩, fun h0 => ?_⟩, fun x hx => ?_⟩
  · rw [hl] at h0
    have hne : (f (g 0)) ≠ [] := by intro e; have := hf (g 0); rw [e] at this; simp at this; omega
    obtain ⟨u0, us, e0⟩ := List.exists_cons_of_ne_nil hne
    have h00 := (hg 0 h0).1 0 u0 (by rw [e0]; rfl)
    obtain ⟨b, off, spot⟩ := a
    have hs2 : spot = none := by simpa [Addr.add] using World.cell?_spot h00
    subst hs2
    refine ⟨b, off, rfl, by simpa [Addr.add] using World.block_lt_of_cell? _ _ h00, fun i hi j u hu => ?_⟩
    have := (hg i (by rw [hl] at hi; exact hi)).1 j u (by simpa using hu)
    rw [add_at] at this
    rw [Nat.add_assoc]; exact this
  · simp only [List.mem_map, List.mem_range] at hx
    obtain ⟨i, hi, rfl⟩ := hx
    exact (hg i hi).2
/-- A slice whose elements open. -/
theorem sl_open {α : Type} {t e : TypeId} (f : α → List Value) (sz : Nat) (ht : Tryz.prog.underlying t = some (.slice e)) (hsz : 0 < sz) (hce : Tryz.prog.cellsOf e = sz) (hf : ∀ x, (f x).length = sz) (x0 : α) (Q : α → Prop)
    (hel : ∀ {fuel : Nat} {cs : List Value} {x : DataW H × List MemPlace}, DataW.trod enc Tryz.prog W 0 (fun _ => true) true fuel e cs = some x → ∃ y : α, cs = f y ∧ Q y)
    {fuel n c : Nat} {a : Option Addr} {x : DataW H × List MemPlace} (h : DataW.trod enc Tryz.prog W 0 (fun _ => true) true fuel t [.slice a n c] = some x) :
    n ≤ 9223372036854775807 ∧ (n ≤ 1000000000 → ∃ l, l.length = n ∧ Sl f sz W W.heap.size (.slice a n c) l ∧ ∀ y ∈ l, Q y) := by
  rcases open_slice ht h with ⟨hcs, _⟩ | ⟨a', len, cap, m, k, D, Pl, hcs, _, hl, hm, hz, _, hcell⟩
  · simp at hcs
    obtain ⟨rfl, rfl, rfl⟩ := hcs
    exact ⟨by omega, fun _ => ⟨[], rfl, Sl.nil _ _ _ _ _ _, by simp⟩⟩
  · simp at hcs
    obtain ⟨rfl, rfl, rfl⟩ := hcs
    simp only [if_true] at hz
    subst hz
    rw [hce] at hcell
    refine ⟨by unfold maxLen at hm; omega, fun hn => ?_⟩
    refine sl_make f sz hsz hf hn hl x0 Q (fun i hi => ?_)
    obtain ⟨cs', h0, h1⟩ := hcell i (by omega)
    obtain ⟨y, rfl, hy⟩ := hel h1
    obtain ⟨_, hcl, hat⟩ := World.cells?_some h0
    refine ⟨y, fun j u hu => ?_, hy⟩
    have hj : j < sz := by have := (List.getElem?_eq_some_iff.1 hu).1; rwa [hf] at this
    rw [← Go.Deep.add_add, hat j hj, hu]
theorem int_open {fuel : Nat} {cs : List Value} {x : DataW H × List MemPlace} (h : DataW.trod enc Tryz.prog W 0 (fun _ => true) true fuel 3 cs = some x) : ∃ y : Int, cs = encI y ∧ (Lit.int .i64 y).wf = true := by
  obtain ⟨k, e1, _, w⟩ := DataW.trod_int Tryz.underlying3 h
  exact ⟨k, e1, w⟩
theorem sl_ints {fuel n c : Nat} {a : Option Addr} {x : DataW H × List MemPlace} (h : DataW.trod enc Tryz.prog W 0 (fun _ => true) true fuel 26 [.slice a n c] = some x) :
    n ≤ 9223372036854775807 ∧ (n ≤ 1000000000 → ∃ l, l.length = n ∧ Sl encI 1 W W.heap.size (.slice a n c) l ∧ ∀ y ∈ l, (Lit.int .i64 y).wf = true) :=
  sl_open encI 1 Tryz.underlying26 (by omega) (by kernel_rfl) encI_len 0 _ int_open h
structure Mc.Fit (m : Mc) : Prop where
  kind : m.kind.size ≤ 9223372036854775807
  time : (Lit.int .i64 m.time).wf = true
set_option maxRecDepth 100000 in
theorem mc_open {fuel : Nat} {cs : List Value} {x : DataW H × List MemPlace} (h : DataW.trod enc Tryz.prog W 0 (fun _ => true) true fuel 65 cs = some x) : ∃ m : Mc, cs = Mc.enc m ∧ m.Fit := by
  obtain ⟨xs, n, _, _, hl, hx, hf⟩ := DataW.trod_struct Tryz.underlying65 h
  rw [show Tryz.prog.cellsOf 65 = 2 from by kernel_rfl] at hl
  match cs, hl with
  | [c0, c1], _ =>
    have f0 : DataW.trod enc Tryz.prog W 0 (fun _ => true) true n 9 (([c0, c1].drop 0).take (Tryz.prog.cellsOf 9)) = xs[0]? := hf 0 _ rfl
    have f1 : DataW.trod enc Tryz.prog W 0 (fun _ => true) true n 3 (([c0, c1].drop 1).take (Tryz.prog.cellsOf 3)) = xs[1]? := hf 1 _ rfl
    have hx2 : xs.length = 2 := hx
    rw [List.getElem?_eq_getElem (show 0 < xs.length by omega), show Tryz.prog.cellsOf 9 = 1 from by kernel_rfl] at f0
    rw [List.getElem?_eq_getElem (show 1 < xs.length by omega), show Tryz.prog.cellsOf 3 = 1 from by kernel_rfl] at f1
    obtain ⟨s, e0, _, hs⟩ := DataW.trod_string Tryz.underlying9 f0
    obtain ⟨a, e1, _, w1⟩ := DataW.trod_int Tryz.underlying3 f1
    simp at e0 e1
    subst e0 e1
    exact ⟨⟨s, a⟩, rfl, hs, w1⟩
set_option maxRecDepth 100000 in
theorem ar_open {fuel : Nat} {cs : List Value} {x : DataW H × List MemPlace} (h : DataW.trod enc Tryz.prog W 0 (fun _ => true) true fuel 123 cs = some x) : ∃ r : Ar, cs = Ar.enc r ∧ True := by
  obtain ⟨xs, n, _, _, hl, hx, hf⟩ := DataW.trod_array Tryz.underlying123 h
  rw [show Tryz.prog.cellsOf 123 = 2 from by kernel_rfl] at hl
  match cs, hl with
  | [c0, c1], _ =>
    have f0 := hf 0 (by omega)
    have f1 := hf 1 (by omega)
    rw [List.getElem?_eq_getElem (show 0 < xs.length by omega), show Tryz.prog.cellsOf 3 = 1 from by kernel_rfl] at f0
    rw [List.getElem?_eq_getElem (show 1 < xs.length by omega), show Tryz.prog.cellsOf 3 = 1 from by kernel_rfl] at f1
    obtain ⟨a, e0, _, _⟩ := DataW.trod_int Tryz.underlying3 f0
    obtain ⟨b, e1, _, _⟩ := DataW.trod_int Tryz.underlying3 f1
    simp at e0 e1
    subst e0 e1
    exact ⟨⟨a, b⟩, rfl, trivial⟩
set_option maxRecDepth 100000 in
/-- A plant by value: two slices; with their lengths bounded, it reads as a plant. -/
theorem pl_open {r : Reach} {b0 : Nat} {v : Value} {d : DataW H} {p : List MemPlace} (hv : Value.okWide Tryz.prog W r b0 25 v) (h : DataW.Trod enc Tryz.prog W 0 (fun _ => true) true 25 v d p) :
    ∃ a1 n1 c1 a2 n2 c2, v = .agg #[.slice a1 n1 c1, .slice a2 n2 c2] ∧ n1 ≤ 9223372036854775807 ∧ n2 ≤ 9223372036854775807 ∧
      ∃ b : Pl, n1 ≤ 70 → n2 ≤ 260 → PlR W W.heap.size (.slice a1 n1 c1) (.slice a2 n2 c2) b ∧ b.ms.length = n1 ∧ b.arcs.length = n2 ∧ ∀ m ∈ b.ms, m.kind.size ≤ 9223372036854775807 := by
  obtain ⟨v0, v1, y0, y1, n, rfl, _, _, h0, h1⟩ := open_agg2 Tryz.underlying25 (by kernel_rfl) (by kernel_rfl) hv h
  obtain ⟨a1, n1, c1, e1⟩ := slice_form Tryz.underlying22 h0
  obtain ⟨a2, n2, c2, e2⟩ := slice_form Tryz.underlying23 h1
  cases e1
  cases e2
  obtain ⟨k1, k2⟩ := sl_open Mc.enc 2 Tryz.underlying22 (by omega) (by kernel_rfl) Mc.enc_len ⟨⟨#[]⟩, 0⟩ _ mc_open h0
  obtain ⟨k3, k4⟩ := sl_open Ar.enc 2 Tryz.underlying23 (by omega) (by kernel_rfl) Ar.enc_len ⟨0, 0⟩ _ ar_open h1
  refine ⟨a1, n1, c1, a2, n2, c2, rfl, k1, k3, ?_⟩
  by_cases hb : n1 ≤ 70 ∧ n2 ≤ 260
  · obtain ⟨l1, f1, f2, f3⟩ := k2 (by omega)
    obtain ⟨l2, f4, f5, _⟩ := k4 (by omega)
    exact ⟨⟨l1, l2⟩, fun _ _ => ⟨⟨f2, f5⟩, f1, f4, fun m hm => (f3 m hm).kind⟩⟩
  · exact ⟨⟨[], []⟩, fun x y => absurd ⟨x, y⟩ hb⟩
end
theorem word_open {W : World} {fuel : Nat} {c : Value} {x : DataW Unit × List MemPlace} {held : Bool} (h : DataW.trod (fun _ => ()) Tryz.prog W 0 (fun _ => true) held fuel 9 [c] = some x) {s : List UInt8} (hx : x.1 = .lit (.string s)) : c = .string ⟨s.toArray⟩ := by
  obtain ⟨b, e0, rfl, _⟩ := DataW.trod_string Tryz.underlying9 h
  simp only [DataW.lit.injEq, Lit.string.injEq] at hx
  simp only [List.cons.injEq, and_true] at e0
  subst hx e0
  rfl
set_option maxRecDepth 100000 in
/-- What the condition gives the walks: the table of words. -/
theorem words_of_laid {W : World} (h : laidMetH Tryz.prog laidP W) : WdR W := by
  rw [MakeChecks.laidMetH_plain _ _ _ (by kernel_rfl)] at h
  obtain ⟨ps, ⟨g0, t0, cs0, f0, p0, q0, hg0, ht0, hv0, hd0, _⟩, _, _⟩ := h
  obtain rfl := Option.some.inj (gWords.symm.trans hg0)
  obtain rfl := Option.some.inj (tWords.symm.trans ht0)
  obtain ⟨xs, m1, rfl, hx1, hlen, hn3, hel⟩ := DataW.trod_array Tryz.underlying173 hd0
  rw [show Tryz.prog.cellsOf 173 = 8 from by kernel_rfl] at hlen
  simp only [show Tryz.prog.cellsOf 9 = 1 from by kernel_rfl] at hel
  obtain ⟨l1⟩ := cs0
  match l1, hlen, xs, hn3, hx1, hel with
  | [c0, c1, c2, c3, c4, c5, c6, c7], _, [x0, x1, x2, x3, x4, x5, x6, x7], _, hx1, hel =>
    have hcell := World.var?_cell hg0 hv0
    have hx2 : DataW.agg [x0.fst, x1.fst, x2.fst, x3.fst, x4.fst, x5.fst, x6.fst, x7.fst] = Rows.laid_bushel_path_words := (congrArg Prod.fst hx1).symm
    unfold Rows.laid_bushel_path_words at hx2
    simp only [DataW.agg.injEq, List.cons.injEq, and_true] at hx2
    obtain ⟨q0, q1, q2, q3, q4, q5, q6, q7⟩ := hx2
    have w0 := word_open (hel 0 (by omega)) q0
    have w1 := word_open (hel 1 (by omega)) q1
    have w2 := word_open (hel 2 (by omega)) q2
    have w3 := word_open (hel 3 (by omega)) q3
    have w4 := word_open (hel 4 (by omega)) q4
    have w5 := word_open (hel 5 (by omega)) q5
    have w6 := word_open (hel 6 (by omega)) q6
    have w7 := word_open (hel 7 (by omega)) q7
    subst w0 w1 w2 w3 w4 w5 w6 w7
    have hlt : 0 < W.heap.size := World.block_lt_of_cell? _ _ (hcell 0)
    refine ⟨_, 8, rfl, ⟨by decide, by decide⟩, fun _ => ⟨0, 0, rfl, hlt, fun i hi j u hu => ?_⟩⟩
    match j, hu with
    | 0, hu =>
      match i, hi, hu with
      | 0, _, hu => exact (hcell 0).trans hu
      | 1, _, hu => exact (hcell 1).trans hu
      | 2, _, hu => exact (hcell 2).trans hu
      | 3, _, hu => exact (hcell 3).trans hu
      | 4, _, hu => exact (hcell 4).trans hu
      | 5, _, hu => exact (hcell 5).trans hu
      | 6, _, hu => exact (hcell 6).trans hu
      | 7, _, hu => exact (hcell 7).trans hu
end Go.Proofs.YtahpdkkpnkhnhaaGreatDoor
