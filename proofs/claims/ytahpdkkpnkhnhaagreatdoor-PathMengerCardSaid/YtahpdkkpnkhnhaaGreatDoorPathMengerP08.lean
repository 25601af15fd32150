/- Lemmas on the way to the law PathMenger (part 8): Ti Wa Ud -/
import Derived.Test.YtahpdkkpnkhnhaaGreatDoorPathMengerP07
import Derived.Test.YtahpdkkpnkhnhaaGreatDoorPathMengerP04
import Derived.Laws.AppendOwnNone
import Derived.RegionTactic
import Derived.BigRegion
set_option linter.unusedVariables false
set_option linter.unusedSimpArgs false

/- Walks: CheckDisjoint. -/
namespace Go.Proofs.YtahpdkkpnkhnhaaGreatDoor
open Go Go.Proofs Go.RowKit Go.Shelf
def disBE (p : Pl) (src snk : List Int) (L : List Pt) : Int := if bothE p src snk ≠ 0 then bothE p src snk else disE p src snk L
theorem disL_zero {p : Pl} {src snk : List Int} : ∀ {L : List Pt}, disL p src snk L = 0 → ∀ t ∈ L, pathE p t.l = 0
  | [], _, t, ht => by cases ht
  | x :: r, h, t, ht => by
    unfold disL at h
    split at h
    · rename_i h1; exact absurd h h1
    · rename_i h1
      split at h
      · cases h
      · rcases List.mem_cons.1 ht with rfl | h2
        · exact Decidable.not_not.1 h1
        · exact disL_zero h t h2
set_option maxRecDepth 100000 in
set_option maxHeartbeats 2000000 in
theorem checkDisjoint74 (w : World) (v1 v2 s t u : Value) (p : Pl) (src snk : List Int) (L : List Pt) (hw : WdR w) (hv : PlR w w.heap.size v1 v2 p) (hs : Sl encI 1 w w.heap.size s src) (ht : Sl encI 1 w w.heap.size t snk) (hu : PtR w w.heap.size u L) (h20 : L.length ≤ 20) (h80 : ∀ t ∈ L, t.l.length ≤ 80) :
    Calls Tryz.prog 74 #[.agg #[v1, v2], s, t, u] w (Ret (.int .i64 (disBE p src snk L)) w) := by
  have C118 := Lib.hid (fun (w1 : World) (hb : Below w.heap.size w w1) => checkBoth118 w1 v1 v2 s t p src snk (hw.later hb) (hv.later hb) (hs.later hb) (ht.later hb))
  have C104 := Lib.hid (fun (w1 : World) (hb : Below w.heap.size w w1) (x : Pt) (hx : x ∈ L) => checkPath104 w1 v1 v2 _ p x.l (hw.later hb) (hv.later hb) ((hu.rd x hx).later hb))
  have C82 := Lib.hid (fun (w1 : World) (hb : Below w.heap.size w w1) (x : Int) => contains82 s src x w1 (hs.later hb))
  have D82 := Lib.hid (fun (w1 : World) (hb : Below w.heap.size w w1) (x : Int) => contains82 t snk x w1 (ht.later hb))
  have C132 := Lib.hid (fun (w1 : World) (hb : Below w.heap.size w w1) (h : disL p src snk L = 0) => concat132 w1 u L (hu.later hb) h20 h80 (fun t ht => by have := (PaV.of (disL_zero h t ht)).two; omega))
  have HRD := Lib.hid hu.rd
  have HFL := Lib.hid (flat_len h80)
  obtain ⟨a1, n1, a2, n2, rfl, rfl⟩ := hv.agg
  obtain ⟨a, c, rfl, hlen, hA⟩ := hu.sl
  have H80 := Lib.hid h80
  have HA := Lib.hid hA
  clear hA hv hu hs ht h80 hw
  obtain ⟨hl, hlc⟩ := hlen
  obtain ⟨n, hn⟩ : ∃ n, p.ms.length = n := ⟨_, rfl⟩
  obtain ⟨m, hm⟩ : ∃ m, p.arcs.length = m := ⟨_, rfl⟩
  obtain ⟨ln, hll⟩ : ∃ m, L.length = m := ⟨_, rfl⟩
  rw [hn] at C118 C104 ⊢
  rw [hm] at C118 C104 ⊢
  rw [hll] at hl hlc h20 HFL C132 ⊢
  have HLN := Lib.hid hll
  clear hn hm hll
  obtain ⟨R, hR⟩ : ∃ R, disBE p src snk L = R := ⟨_, rfl⟩
  rw [hR]
  unfold disBE disE at hR
  obtain ⟨du, hdu⟩ : ∃ d, dupB (L.flatMap Pt.l) = d := ⟨_, rfl⟩
  rw [hdu] at hR
  have HDU := Lib.hid hdu
  clear hdu
  obtain ⟨bE, hbE⟩ : ∃ e, bothE p src snk = e := ⟨_, rfl⟩
  rw [hbE] at hR C118
  clear hbE
  have HB := Lib.hid ((Below.refl w.heap.size w).alloc (Nat.le_refl _) (.cells #[.slice a1 n n1, .slice a2 m n2] 25))
  have HX := Lib.hid (Box.new w #[.slice a1 n n1, .slice a2 m n2] 25)
  by_cases h0 : bE = 0
  rotate_left
  · have k1 : (bE != 0) = true := by simpa using h0
    have HV := Lib.hid (show bE = R by rw [if_pos h0] at hR; exact hR)
    clear hR h0
    go_enter Tryz.func74, Tryz.ntmps74
    go_wp2_with fail
    refine (C118.out _ HB.out).mono ?_
    rintro e w2 ⟨rfl, hb⟩
    have HB2 := Lib.hid (HB.out.trans (hb.mono HB.out.size))
    clear hb
    go_wp2_with fail
    go_ret
    exact ⟨by rw [HV.out]; rfl, HB2.out⟩
  subst h0
  have HR0 := Lib.hid (show (if disL p src snk L ≠ 0 then disL p src snk L else if du = true then (9 : Int) else 0) = R by rw [if_neg (by simp)] at hR; exact hR)
  clear hR
  go_enter Tryz.func74, Tryz.ntmps74
  go_wp2_with fail
  refine (C118.out _ HB.out).mono ?_
  rintro e w2 ⟨rfl, hb⟩
  have HB2 := Lib.hid (HB.out.trans (hb.mono HB.out.size))
  have HX2 := Lib.hid (HX.out.later hb)
  clear hb HB HX C118
  go_wp2_with fail
  go_loopw [23] (fun j wr => ∃ k : Nat, k ≤ ln ∧ j = .int .i64 k ∧ Below w.heap.size w wr ∧ Box wr w.heap.size 25 [.slice a1 n n1, .slice a2 m n2] ∧ (if disL p src snk (L.drop k) ≠ 0 then disL p src snk (L.drop k) else if du = true then (9 : Int) else 0) = R ∧ (disL p src snk L = disL p src snk (L.drop k))) (fun j _ => ln - (intOf j).toNat)
  case atStart => exact ⟨0, by omega, rfl, HB2.out, HX2.out, HR0.out, rfl⟩
  case round =>
    clear HB2 HX2 HR0
    obtain ⟨k, hk, rfl, hbe, hx, hrel, hsame⟩ := hrel
    have HB1 := Lib.hid hbe
    have HX1 := Lib.hid hx
    have HR := Lib.hid hrel
    have HSM := Lib.hid hsame
    clear hbe hx hrel hsame
    by_cases hlt : k < ln
    rotate_left
    · obtain rfl : ln = k := by omega
      have hz : disL p src snk (L.drop ln) = 0 := by rw [List.drop_of_length_le (by rw [HLN.out]; omega)]; rfl
      have HV := Lib.hid (show (if du = true then (9 : Int) else 0) = R by
        have h := HR.out
        rw [hz, if_neg (by simp)] at h
        exact h)
      have K132 := Lib.hid (fun w1 hb => C132.out w1 hb (HSM.out.trans hz))
      clear hz
      have hfl := HFL.out
      generalize L.flatMap Pt.l = A at *
      go_wp2_with fail
      refine (K132.out _ HB1.out).mono ?_
      rintro e w3 ⟨v3, rfl, ho3, hb⟩
      have HB3 := Lib.hid (HB1.out.trans (hb.mono HB1.out.size))
      have hs3 := ho3.toSl encI_len (by omega)
      have HS3 := Lib.hid hs3
      obtain ⟨a3, c3, rfl, _, _⟩ := hs3
      clear hb ho3
      have k1 : ((cptN A : Int) != (A.length : Int)) = du := by rw [← HDU.out]; exact cptN_dup A
      obtain ⟨an, han⟩ : ∃ x, A.length = x := ⟨_, rfl⟩
      rw [han] at HS3 k1 hfl ⊢
      have HAN := Lib.hid han
      clear han
      go_wp2_with fail
      refine (values135 _ _ _ _).mono ?_
      rintro e w4 ⟨rfl, h4⟩
      have hb4 : Below w3.heap.size w3 w4 := by rw [← h4]; exact (Below.refl _ _).alloc (Nat.le_refl _) _
      have HVR := Lib.hid (show VlR w4 w3.heap.size w3.heap.size (.slice a3 an c3) A from by
        rw [← h4]
        have hb : Below w3.heap.size w3 (w3.alloc (.cells #[.slice a3 an c3] 26)) := (Below.refl _ _).alloc (Nat.le_refl _) _
        exact ⟨Box.new w3 #[.slice a3 an c3] 26, HS3.out.below hb, hb.size⟩)
      have HB4 := Lib.hid (HB3.out.trans (hb4.mono HB3.out.size))
      have HSO := Lib.hid (sorted134 _ _ _ A w4 HVR.out (by rw [HAN.out]; omega))
      clear h4 hb4
      go_wp2_with fail
      refine (HSO.out).mono ?_
      rintro e w5 ⟨v5, rfl, ho5, hb⟩
      have HB5 := Lib.hid (HB4.out.trans (hb.mono HB4.out.size))
      have HCO := Lib.hid (compact133 _ v5 A w5 ho5 hb.size (by rw [HAN.out]; omega))
      have h45 := hb.size
      obtain ⟨a5, c5, rfl⟩ := ho5.shape
      clear ho5 hb
      generalize cptN A = cn at *
      generalize (sortI A).length = sn at *
      go_wp2_with fail
      refine (HCO.out).mono ?_
      rintro e w6 ⟨a6, c6, rfl, hb⟩
      have HB6 := Lib.hid (HB5.out.trans (hb.mono (Nat.le_trans HB4.out.size (Nat.le_refl _))))
      clear hb
      cases du with
      | true =>
        go_wp2_with fail
        go_ret
        exact ⟨by rw [← HV.out]; rfl, HB6.out⟩
      | false =>
        go_wp2_with fail
        go_ret
        exact ⟨by rw [← HV.out]; rfl, HB6.out⟩
    have hkl : k < L.length := by rw [HLN.out]; exact hlt
    obtain ⟨b, off, rfl, hbb, hcells⟩ := HA.out (by omega)
    have c0 := ((hcells k hkl).below HB1.out hbb).c1
    rw [Nat.mul_one] at c0
    have hbz : b < wr.heap.size := Nat.lt_of_lt_of_le hbb HB1.out.size
    have HM := Lib.hid (List.getElem_mem hkl)
    have HDL := Lib.hid (disL_drop p src snk L k hkl)
    have hx80 := H80.out _ HM.out
    have hrd := HRD.out _ HM.out
    have K104 := Lib.hid (fun w1 hb => C104.out w1 hb L[k] HM.out)
    clear hcells
    generalize L[k] = x at *
    obtain ⟨xa, xc, xl⟩ := x
    dsimp only at hx80 hrd c0 HDL K104
    have HRX := Lib.hid hrd
    clear hrd
    obtain ⟨x0, x1, xf, xz⟩ := HX1.out.v2
    obtain ⟨ep, hep⟩ : ∃ c, pathE p xl = c := ⟨_, rfl⟩
    rw [hep] at K104 HDL
    have HEP := Lib.hid hep
    clear hep
    obtain ⟨xn, hxn⟩ : ∃ n, xl.length = n := ⟨_, rfl⟩
    rw [hxn] at K104 HDL c0 hx80 HRX
    have HXN := Lib.hid hxn
    clear hxn
    go_wp2_with fail
    refine (K104.out _ HB1.out).mono ?_
    rintro e w2 ⟨rfl, hb⟩
    have HB2 := Lib.hid (HB1.out.trans (hb.mono HB1.out.size))
    have HX2 := Lib.hid (HX1.out.later hb)
    clear hb c0 hbz x0 x1 xf xz
    by_cases h1 : ep = 0
    rotate_left
    · have k1 : (ep != 0) = true := by simpa using h1
      have HV := Lib.hid (show ep = R by
        have h := HR.out
        rw [HDL.out, if_pos (show ep ≠ 0 from h1), if_pos h1] at h
        exact h)
      clear h1
      go_wp2_with fail
      go_ret
      exact ⟨by rw [HV.out]; rfl, HB2.out⟩
    subst h1
    have hpa := PaV.of HEP.out
    have h2 := hpa.two
    rw [HXN.out] at h2
    clear hpa
    obtain ⟨a', c', e5, _, hAx⟩ := id HRX.out
    rw [HXN.out] at e5
    cases e5
    obtain ⟨bx, ox, rfl, hbx, hcx⟩ := hAx (by rw [HXN.out]; omega)
    have l0 := ((hcx 0 (by rw [HXN.out]; omega)).below HB2.out hbx).c1
    have l1 := ((hcx (xn - 1) (by rw [HXN.out]; omega)).below HB2.out hbx).c1
    rw [← getD_geI] at l0 l1
    rw [Nat.mul_one] at l0 l1
    rw [Nat.add_zero] at l0
    have hbxz : bx < w2.heap.size := Nat.lt_of_lt_of_le hbx HB2.out.size
    have k5 : IntKind.i64.wrap ((xn : Int) - 1) = ((xn - 1 : Nat) : Int) := by rw [IntWalk.i64_in _ (by omega)]; omega
    have k6 : ((xn - 1 : Nat) : Int) < (xn : Int) := by omega
    obtain ⟨z0, hz0⟩ : ∃ z, xl.getD 0 0 = z := ⟨_, rfl⟩
    obtain ⟨z1, hz1⟩ : ∃ z, xl.getD (xn - 1) 0 = z := ⟨_, rfl⟩
    rw [hz0] at l0 HDL
    rw [hz1] at l1 HDL
    clear hz0 hz1 hcx hAx
    obtain ⟨n6, hn6⟩ : ∃ n, xn - 1 = n := ⟨_, rfl⟩
    rw [hn6] at l1 k5 k6
    clear hn6
    have HK0 := Lib.hid (fun w1 hb => C82.out w1 hb z0)
    have HK1 := Lib.hid (fun w1 hb => D82.out w1 hb z1)
    obtain ⟨q0, hq0⟩ : ∃ q, src.contains z0 = q := ⟨_, rfl⟩
    obtain ⟨q1, hq1⟩ : ∃ q, snk.contains z1 = q := ⟨_, rfl⟩
    rw [hq0] at HK0 HDL
    rw [hq1] at HK1 HDL
    clear hq0 hq1
    have hxn0 : (0 : Int) < (xn : Int) := by omega
    cases q0 with
    | false =>
      have HV := Lib.hid (show (1 : Int) = R from by have h := HR.out; rw [HDL.out] at h; exact h)
      go_wp2_with fail
      refine (HK0.out _ HB2.out).mono ?_
      rintro e w3 ⟨rfl, rfl⟩
      go_wp2_with fail
      go_ret
      exact ⟨by rw [← HV.out]; rfl, HB2.out⟩
    | true =>
    cases q1 with
    | false =>
      have HV := Lib.hid (show (1 : Int) = R from by have h := HR.out; rw [HDL.out] at h; exact h)
      go_wp2_with fail
      refine (HK0.out _ HB2.out).mono ?_
      rintro e w3 ⟨rfl, rfl⟩
      go_wp2_with fail
      refine (HK1.out _ HB2.out).mono ?_
      rintro e w3 ⟨rfl, rfl⟩
      go_wp2_with fail
      go_ret
      exact ⟨by rw [← HV.out]; rfl, HB2.out⟩
    | true =>
      have HD2 := Lib.hid (show disL p src snk (L.drop k) = disL p src snk (L.drop (k + 1)) from HDL.out)
      have HV := Lib.hid (show (if disL p src snk (L.drop (k + 1)) ≠ 0 then disL p src snk (L.drop (k + 1)) else if du = true then (9 : Int) else 0) = R from by have h := HR.out; rw [HD2.out] at h; exact h)
      go_wp2_with fail
      refine (HK0.out _ HB2.out).mono ?_
      rintro e w3 ⟨rfl, rfl⟩
      go_wp2_with fail
      refine (HK1.out _ HB2.out).mono ?_
      rintro e w3 ⟨rfl, rfl⟩
      go_wp2_with fail
      go_roundw
      case rel => exact ⟨k + 1, by omega, by go_num, HB2.out, HX2.out, HV.out, HSM.out.trans HD2.out⟩
      case measure => simp [intOf]; omega
end Go.Proofs.YtahpdkkpnkhnhaaGreatDoor
/- Plain: all paths that begin with some machines, as the law lists them. -/
namespace Go.Proofs.YtahpdkkpnkhnhaaGreatDoor
open Go Go.Proofs Go.RowKit Go.Shelf
def lastI (l : List Int) : Int := l.getD (l.length - 1) 0
def wayStep (rec : List Int → List (List Int)) (p : Pl) (l : List Int) (out : List (List Int)) (a : Ar) : List (List Int) :=
  if a.fr ≠ lastI l ∨ l.contains a.to = true then out else
  if cvB (kdA p a.to) = true then (if pathB p (l ++ [a.to]) = true then out ++ [l ++ [a.to]] else out) ++ rec (l ++ [a.to]) else (if pathB p (l ++ [a.to]) = true then out ++ [l ++ [a.to]] else out)
def waysL (rec : List Int → List (List Int)) (p : Pl) (l : List Int) : List Ar → List (List Int) → List (List Int)
  | [], out => out
  | a :: r, out => if 500 < out.length then out else waysL rec p l r (wayStep rec p l out a)
def waysF (p : Pl) : Nat → List Int → List (List Int)
  | 0, _ => []
  | f + 1, l => waysL (waysF p f) p l p.arcs []
theorem wayStep_pre (rec : List Int → List (List Int)) (p : Pl) (l : List Int) (out : List (List Int)) (a : Ar) : out <+: wayStep rec p l out a := by
  unfold wayStep
  split
  · exact List.prefix_refl _
  · split
    · split
      · rw [List.append_assoc]; exact List.prefix_append _ _
      · exact List.prefix_append _ _
    · split
      · exact List.prefix_append _ _
      · exact List.prefix_refl _
theorem waysL_pre (rec : List Int → List (List Int)) (p : Pl) (l : List Int) : ∀ (r : List Ar) (out : List (List Int)), out <+: waysL rec p l r out
  | [], _ => List.prefix_refl _
  | a :: r, out => by
    unfold waysL
    split
    · exact List.prefix_refl _
    · exact (wayStep_pre rec p l out a).trans (waysL_pre rec p l r _)
theorem wayStep_len {rec : List Int → List (List Int)} {p : Pl} {l : List Int} {out : List (List Int)} {a : Ar} {B : Nat} (hB : ∀ y, l.contains y = false → (rec (l ++ [y])).length ≤ B) (ho : out.length ≤ 500) : (wayStep rec p l out a).length ≤ 501 + B := by
  unfold wayStep
  split
  · omega
  · rename_i h
    have hc : l.contains a.to = false := by
      cases hq : l.contains a.to with
      | false => rfl
      | true => exact absurd (.inr hq) h
    have := hB a.to hc
    split
    · split
      · simp only [List.length_append, List.length_singleton]; omega
      · simp only [List.length_append]; omega
    · split
      · simp only [List.length_append, List.length_singleton]; omega
      · omega
theorem waysL_len {rec : List Int → List (List Int)} {p : Pl} {l : List Int} {B : Nat} (hB : ∀ y, l.contains y = false → (rec (l ++ [y])).length ≤ B) : ∀ (r : List Ar) (out : List (List Int)), out.length ≤ 501 + B → (waysL rec p l r out).length ≤ 501 + B
  | [], _, h => h
  | a :: r, out, h => by
    unfold waysL
    split
    · exact h
    · exact waysL_len hB r _ (wayStep_len hB (by omega))
theorem waysF_len (p : Pl) : ∀ (f : Nat) (l : List Int), (waysF p f l).length ≤ 501 * f
  | 0, _ => by simp [waysF]
  | f + 1, l => by
    have := waysL_len (rec := waysF p f) (p := p) (l := l) (B := 501 * f) (fun y _ => waysF_len p f _) p.arcs [] (by simp)
    show (waysL (waysF p f) p l p.arcs []).length ≤ _
    omega
def GoodW (p : Pl) (l x : List Int) : Prop := pathB p x = true ∧ l <+: x
theorem wayStep_good {rec : List Int → List (List Int)} {p : Pl} {l : List Int} {out : List (List Int)} {a : Ar} (hr : ∀ y, ∀ x ∈ rec (l ++ [y]), GoodW p (l ++ [y]) x) (ho : ∀ x ∈ out, GoodW p l x) : ∀ x ∈ wayStep rec p l out a, GoodW p l x := by
  have h1 : ∀ x ∈ (if pathB p (l ++ [a.to]) = true then out ++ [l ++ [a.to]] else out), GoodW p l x := by
    intro x hx
    split at hx
    · rename_i hp
      rcases List.mem_append.1 hx with h | h
      · exact ho x h
      · rw [List.mem_singleton] at h; subst h; exact ⟨hp, List.prefix_append _ _⟩
    · exact ho x hx
  intro x hx
  unfold wayStep at hx
  split at hx
  · exact ho x hx
  · split at hx
    · rcases List.mem_append.1 hx with h | h
      · exact h1 x h
      · obtain ⟨k1, k2⟩ := hr _ x h
        exact ⟨k1, (List.prefix_append _ _).trans k2⟩
    · exact h1 x hx
theorem waysL_good {rec : List Int → List (List Int)} {p : Pl} {l : List Int} (hr : ∀ y, ∀ x ∈ rec (l ++ [y]), GoodW p (l ++ [y]) x) : ∀ (r : List Ar) (out : List (List Int)), (∀ x ∈ out, GoodW p l x) → ∀ x ∈ waysL rec p l r out, GoodW p l x
  | [], _, ho => ho
  | a :: r, out, ho => by
    unfold waysL
    split
    · exact ho
    · exact waysL_good hr r _ (wayStep_good hr ho)
theorem waysF_good (p : Pl) : ∀ (f : Nat) (l : List Int), ∀ x ∈ waysF p f l, GoodW p l x
  | 0, _, _, h => by cases h
  | f + 1, l, x, h => waysL_good (fun y => waysF_good p f (l ++ [y])) p.arcs [] (fun _ h => by cases h) x h
theorem waysL_all {rec : List Int → List (List Int)} {p : Pl} {l : List Int} {x : List Int} {y : Int} (hy : l.contains y = false) (hx : (x = l ++ [y] ∧ pathB p x = true) ∨ (cvB (kdA p y) = true ∧ ((rec (l ++ [y])).length ≤ 500 → x ∈ rec (l ++ [y])))) :
    ∀ (r : List Ar) (out : List (List Int)), (⟨lastI l, y⟩ : Ar) ∈ r → (waysL rec p l r out).length ≤ 500 → x ∈ waysL rec p l r out
  | a :: r, out, hm, hl => by
    unfold waysL at hl ⊢
    split at hl
    · omega
    · rename_i h5
      rw [if_neg h5]
      have hpre := waysL_pre rec p l r (wayStep rec p l out a)
      by_cases e : a = ⟨lastI l, y⟩
      · subst e
        refine hpre.subset ?_
        have hlen := Nat.le_trans hpre.length_le hl
        unfold wayStep at hlen ⊢
        rw [if_neg (by rintro (h | h); exact h rfl; rw [hy] at h; cases h)] at hlen ⊢
        dsimp only at hlen ⊢
        rcases hx with ⟨rfl, hp⟩ | ⟨hc, hrec⟩
        · rw [if_pos hp]
          split
          · simp
          · simp
        · rw [if_pos hc] at hlen ⊢
          rw [List.length_append] at hlen
          exact List.mem_append_right _ (hrec (by omega))
      · rcases List.mem_cons.1 hm with h | h
        · exact absurd h.symm e
        · exact waysL_all hy hx r _ h hl
theorem waysF_all {p : Pl} : ∀ (f : Nat) (l x : List Int), 0 < l.length → pathB p x = true → l <+: x → l.length < x.length → x.length ≤ l.length + f → (waysF p f l).length ≤ 500 → x ∈ waysF p f l
  | 0, l, x, _, _, _, h1, h2, _ => by omega
  | f + 1, l, x, h0, hp, hpre, h1, h2, h3 => by
    obtain ⟨t, rfl⟩ := hpre
    obtain ⟨q2, _, _, hnd, hok⟩ := (pathB_iff p _).1 hp
    cases t with
    | nil => simp at h1
    | cons y t =>
      have hyl : l.contains y = false := by
        cases hq : l.contains y with
        | false => rfl
        | true =>
          rw [contains_iff] at hq
          rw [List.nodup_append] at hnd
          exact absurd rfl (hnd.2.2 y hq y (by simp))
      have hk := hok l.length (by simp)
      have hget : (l ++ y :: t).getD l.length 0 = y := by rw [List.getD_eq_getElem?_getD, List.getElem?_append_right (Nat.le_refl _)]; simp
      have hgl : (l ++ y :: t).getD (l.length - 1) 0 = lastI l := by
        unfold lastI
        rw [List.getD_eq_getElem?_getD, List.getElem?_append_left (by omega), ← List.getD_eq_getElem?_getD]
      unfold okK at hk
      rw [hget, hgl] at hk
      simp only [Bool.or_eq_true, Bool.and_eq_true, decide_eq_true_eq] at hk
      rcases hk with hk | ⟨hk1, hk2⟩
      · omega
      refine waysL_all hyl ?_ p.arcs [] hk2 h3
      cases t with
      | nil => exact .inl ⟨rfl, hp⟩
      | cons z t =>
        right
        refine ⟨?_, fun h4 => ?_⟩
        · rcases hk1 with h | h
          · simp at h
          · exact h
        · have e : l ++ y :: z :: t = (l ++ [y]) ++ z :: t := by simp
          rw [e] at hp ⊢
          refine waysF_all f (l ++ [y]) _ (by simp) hp (List.prefix_append _ _) (by simp) ?_ h4
          simp at h2 ⊢; omega
theorem way_nodup_len {p : Pl} {x : List Int} (h : pathB p x = true) (hin : ∀ y ∈ x, inN p.ms.length y = true) : x.length ≤ p.ms.length := by
  obtain ⟨_, _, _, hnd, _⟩ := (pathB_iff p _).1 h
  have h1 : (x.map Int.toNat).Nodup := by
    rw [List.nodup_iff_pairwise_ne, List.pairwise_map]
    refine List.Pairwise.imp_of_mem ?_ (List.nodup_iff_pairwise_ne.1 hnd)
    intro a b ha hb hab e
    obtain ⟨k, e1, h1⟩ := inN_nat (hin a ha)
    obtain ⟨m, e2, h2⟩ := inN_nat (hin b hb)
    exact hab (by omega)
  have h2 : (x.map Int.toNat).length ≤ (List.range p.ms.length).length := h1.length_le_of_subset fun y hy => by
    obtain ⟨z, hz, rfl⟩ := List.mem_map.1 hy
    obtain ⟨k, e1, h1⟩ := inN_nat (hin z hz)
    exact List.mem_range.2 (by omega)
  simpa using h2
theorem path_in {p : Pl} (hok : OkP p) {x : List Int} (h : pathB p x = true) : ∀ y ∈ x, inN p.ms.length y = true := by
  obtain ⟨h2, _, _, _, hok2⟩ := (pathB_iff p _).1 h
  have key : ∀ k, k < x.length → inN p.ms.length (x.getD k 0) = true := by
    intro k hk
    cases k with
    | zero =>
      have h1 := hok2 1 (by omega)
      unfold okK at h1
      simp only [Bool.or_eq_true, Bool.and_eq_true, decide_eq_true_eq] at h1
      rcases h1 with h1 | ⟨_, h1⟩
      · omega
      · exact (hok.ins _ h1).1
    | succ k =>
      have h1 := hok2 (k + 1) hk
      unfold okK at h1
      simp only [Bool.or_eq_true, Bool.and_eq_true, decide_eq_true_eq] at h1
      rcases h1 with h1 | ⟨_, h1⟩
      · omega
      · exact (hok.ins _ h1).2.1
  intro y hy
  obtain ⟨k, hk, rfl⟩ := List.mem_iff_getElem.1 hy
  have := key k hk
  rwa [List.getD_eq_getElem?_getD, List.getElem?_eq_getElem hk] at this
end Go.Proofs.YtahpdkkpnkhnhaaGreatDoor
/- Lists of lists that a call has made. -/
namespace Go.Proofs.YtahpdkkpnkhnhaaGreatDoor
open Go Go.Proofs Go.RowKit Go.Shelf
structure Hdp where
  a : Option Addr
  n : Nat
  c : Nat
def Hdp.v (h : Hdp) : Value := .slice h.a h.n h.c
def Hdp.enc (h : Hdp) : List Value := [h.v]
theorem Hdp.enc_len (h : Hdp) : h.enc.length = 1 := rfl
theorem Hdp.enc_one (h : Hdp) : ∀ u ∈ h.enc, u.oneCell' = true := by intro u hu; simp [Hdp.enc] at hu; subst hu; rfl
theorem Tryz.under86 : Tryz.prog.underlying 86 = some (.slice 26) := by kernel_rfl
theorem Tryz.infoS : (Tryz.prog.info? 26).map (fun i => (i.zero, i.size, i.bytes)) = some (some (.slice none 0 0), 1, 24) := by kernel_rfl
theorem wpList_catP {α : Type} (f : α → List Value) (sz bytes : Nat) (t e : TypeId) (z : Value) {P : Program} (hT : P.underlying t = some (.slice e)) (hI : (P.info? e).map (fun i => (i.zero, i.size, i.bytes)) = some (some z, sz, bytes))
    (hzs : z.cells.size = sz) (hsz : 0 < sz) (hby : bytes ≤ 1000) (hf : ∀ x, (f x).length = sz) (h1c : ∀ x, ∀ u ∈ f x, u.oneCell' = true)
    (l l2 : List α) (base base2 : Nat) (w : World) (v u : Value) (hown : Own f sz e w base v l) (hbase : base ≤ w.heap.size) (hlen : l.length + l2.length ≤ 2000000000) (hu : Own f sz e w base2 u l2)
    {ops : Array Oper} {rest : List Oper} {o : Oper} {a : Act} {Q : Exit → Act → World → Prop} (hgd : o.guard = none) (s y : Operand)
    (ho : o.op = .call { callee := .builtin .append, args := #[s, y], argTypes := #[t, t] }) (hs : a.eval s = v) (hy : a.eval y = u)
    (h : ∀ v' w', Own f sz e w' base v' (l ++ l2) → w.grownBy w' v.ownBlock → wpList P ops Q rest (a.put o.dst v') w') : wpList P ops Q (o :: rest) a w := by
  rcases hu.2 with ⟨hv, h0⟩ | ⟨g, cap, cur, hv, _⟩
  · have hl2 : l2 = [] := List.eq_nil_of_length_eq_zero h0
    subst hl2
    obtain ⟨i, hi, _, _, _⟩ := info_parts hI
    refine wpList_append_own_none hgd s y t ho base e i sz hT hi v l.length _ hs hown (by rw [hy, hv]) ?_
    exact h v w (by rw [List.append_nil]; exact hown) (World.grownBy.refl _ _)
  · refine wpList_cat f sz bytes t e z hT hI hzs hsz hby hf h1c l l2 base w v hown hbase hlen ⟨g, 0, none⟩ cap ?_ hgd s y ho hs (by rw [hy, hv]) h
    intro i hi j q hq
    rw [hv] at hu
    have := hu.at hf i hi j q hq
    rw [Addr.add_lit, Nat.zero_add]
    exact this
def LLP (w : World) (base bi : Nat) (v : Value) (LL : List (List Int)) : Prop :=
  ∃ HH : List Hdp, Own Hdp.enc 1 26 w base v HH ∧ HH.length = LL.length ∧ ∀ i (h : i < HH.length) (h2 : i < LL.length), Own encI 1 3 w bi HH[i].v LL[i]
theorem LLP.later {w w' : World} {base bi : Nat} {v : Value} {LL : List (List Int)} (h : LLP w base bi v LL) (hb : Below w.heap.size w w') : LLP w' base bi v LL := by
  obtain ⟨HH, h1, h2, h3⟩ := h
  exact ⟨HH, h1.later hb, h2, fun i k1 k2 => (h3 i k1 k2).later hb⟩
theorem LLP.nil (w : World) (base bi : Nat) : LLP w base bi (.slice none 0 0) [] := ⟨[], Own.nil _ _ _ _ _, rfl, fun i h => absurd h (by simp)⟩
theorem LLP.push {w w' : World} {base bi : Nat} {v v' : Value} {LL : List (List Int)} {HH : List Hdp} {h : Hdp} {l : List Int} (h2 : HH.length = LL.length) (h3 : ∀ i (h : i < HH.length) (h2 : i < LL.length), Own encI 1 3 w bi HH[i].v LL[i])
    (hl : Own encI 1 3 w bi h.v l) (hv : Own Hdp.enc 1 26 w base v HH) (ho : Own Hdp.enc 1 26 w' base v' (HH ++ [h])) (hg : w.grownBy w' v.ownBlock) : LLP w' base bi v' (LL ++ [l]) := by
  refine ⟨HH ++ [h], ho, by simp [h2], fun i k1 k2 => ?_⟩
  have kept : ∀ (q : Value) (l : List Int), Own encI 1 3 w bi q l → Own encI 1 3 w' bi q l := by
    intro q l hq
    refine hq.kept hg ?_
    rcases hqo : q.ownBlock with _ | k
    · exact .inl rfl
    · exact .inr fun e => hq.two_types hv (by decide) k hqo e.symm
  by_cases hi : i < HH.length
  · have e1 : (HH ++ [h])[i] = HH[i] := List.getElem_append_left hi
    have e2 : (LL ++ [l])[i] = LL[i]'(by omega) := List.getElem_append_left (by omega)
    rw [e1, e2]
    exact kept _ _ (h3 i hi (by omega))
  · simp at k1 k2
    have hi2 : i = HH.length := by omega
    subst hi2
    have e1 : (HH ++ [h])[HH.length]'(by simp) = h := by simp
    have e2 : (LL ++ [l])[HH.length]'(by simp; omega) = l := by simp [h2]
    rw [e1, e2]
    exact kept _ _ hl
theorem LLP.lower {w : World} {base base' bi bi' : Nat} {v : Value} {LL : List (List Int)} (h : LLP w base bi v LL) (h1 : base' ≤ base) (h2 : bi' ≤ bi) : LLP w base' bi' v LL := by
  obtain ⟨HH, k1, k2, k3⟩ := h
  exact ⟨HH, k1.lower h1, k2, fun i q1 q2 => (k3 i q1 q2).lower h2⟩
theorem nx_mid {wr wA wB : World} {v1' : Value} {LJ : List Int} {cur : Int} (oA : Own encI 1 3 wA wr.heap.size v1' LJ) (gA : (wr.alloc (.cells #[] 3)).grownBy wA (some wr.heap.size)) (gB : (wA.alloc (.cells #[.int .i64 cur] 3)).grownBy wB v1'.ownBlock) :
    Below wr.heap.size wr wA ∧ Below wr.heap.size wr wB := by
  have h1 : Below wr.heap.size wr wA := ((Below.refl wr.heap.size wr).alloc (Nat.le_refl _) (.cells #[] 3)).grown gA (by simp) (fun k hk => by have : wr.heap.size = k := Option.some.inj hk; omega)
  have h2 := h1.alloc h1.size (.cells #[.int .i64 cur] 3)
  exact ⟨h1, h2.grown gB h2.size (fun k hk => oA.lt' k hk)⟩
end Go.Proofs.YtahpdkkpnkhnhaaGreatDoor
