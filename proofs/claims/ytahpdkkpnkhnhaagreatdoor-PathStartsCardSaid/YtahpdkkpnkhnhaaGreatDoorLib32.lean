/- Lemmas on the way to the laws (part 32): Kc Kd Ke Kf Kg -/
import Derived.Test.YtahpdkkpnkhnhaaGreatDoorLib31
set_option linter.unusedVariables false
set_option linter.unusedSimpArgs false

/- Walks: CheckState of the reference. -/
namespace Go.Proofs.YtahpdkkpnkhnhaaGreatDoor
open Go Go.Proofs Go.RowKit Go.Shelf

set_option maxRecDepth 100000 in
set_option maxHeartbeats 1000000 in
theorem checkState27 (w : World) (v1 v2 u : Value) (p : Pl) (st : List Sx) (hv : PlR w w.heap.size v1 v2 p) (hu : Sl Sx.enc 3 w w.heap.size u st) (hs : SzR st) : Calls Tryz.prog 27 #[.agg #[v1, v2], u] w (Ret (.int .i64 (ckState p st)) w) := by
  have HP := Lib.hid (fun (w1 : World) (hb : Below w.heap.size w w1) => ckPlant19 w1 _ _ p (hv.later hb))
  have HST := Lib.hid (fun (w1 : World) (hb : Below w.heap.size w w1) => fun m s hm hs hok => status97 w1 _ _ p m s (hv.later hb) hm hs hok)
  have HVL := Lib.hid (fun (w1 : World) (hb : Below w.heap.size w w1) => fun hln hfd => isValid98 w1 _ _ u p st (hv.later hb) (hu.later hb) hln hfd)
  obtain ⟨a1, n1, a2, n2, rfl, rfl⟩ := hv.agg
  obtain ⟨a, c, rfl, hlen, hA⟩ := hu
  have HA := Lib.hid hA
  have HSZ := Lib.hid hs
  clear hA hs hv
  obtain ⟨hl, hlc⟩ := hlen
  obtain ⟨R, hR⟩ : ∃ R, ckState p st = R := ⟨_, rfl⟩
  rw [hR]
  unfold ckState at hR
  have HR := Lib.hid hR
  clear hR
  have HB := Lib.hid ((Below.refl w.heap.size w).alloc (Nat.le_refl _) (.cells #[.slice a1 p.ms.length n1, .slice a2 p.arcs.length n2] 25))
  have HX := Lib.hid (Box.new w #[.slice a1 p.ms.length n1, .slice a2 p.arcs.length n2] 25)
  have HOKP := Lib.hid (fun h : ckPlant p = 0 => ckPlant_ok h)
  obtain ⟨n, hn⟩ : ∃ n, p.ms.length = n := ⟨_, rfl⟩
  obtain ⟨m, hm⟩ : ∃ m, p.arcs.length = m := ⟨_, rfl⟩
  obtain ⟨ln, hln⟩ : ∃ m, st.length = m := ⟨_, rfl⟩
  rw [hln] at hl hlc HVL ⊢
  rw [hn] at HB HX HP HST HVL ⊢
  rw [hm] at HB HX HP HST HVL ⊢
  have HN := Lib.hid hn
  have HLN := Lib.hid hln
  clear hn hm hln
  obtain ⟨cp, hcp⟩ : ∃ c, ckPlant p = c := ⟨_, rfl⟩
  rw [hcp] at HP HR HOKP
  clear hcp
  go_enter Tryz.func27, Tryz.ntmps27
  go_wp2_with fail
  refine (HP.out _ HB.out).mono ?_
  rintro e w2 ⟨rfl, hb2⟩
  have HB2 := Lib.hid (HB.out.trans (hb2.mono HB.out.size))
  have HX2 := Lib.hid (HX.out.later hb2)
  obtain ⟨x0, x1, xf, xz⟩ := HX2.out.v2
  clear hb2
  by_cases hc0 : cp = 0
  rotate_left
  · have k0 : (cp != 0) = true := by simpa using hc0
    rw [if_pos hc0] at HR
    clear hc0
    go_wp2_with fail
    go_ret
    exact ⟨by rw [← HR.out]; rfl, HB2.out⟩
  subst hc0
  rw [if_neg (by simp)] at HR
  have HOP := Lib.hid (HOKP.out rfl)
  clear HOKP
  by_cases hnl : ln = n
  rotate_left
  · have k1 : ((ln : Int) != (n : Int)) = true := by simp; omega
    rw [if_pos (by rw [HLN.out, HN.out]; exact hnl)] at HR
    clear hnl
    go_wp2_with fail
    go_ret
    exact ⟨by rw [← HR.out]; rfl, HB2.out⟩
  subst hnl
  rw [if_neg (by rw [HLN.out, HN.out]; simp)] at HR
  obtain ⟨S, hS⟩ : ∃ S, ckStL p 0 st = S := ⟨_, rfl⟩
  have HS0 := Lib.hid (show ckStL p 0 (st.drop 0) = S from hS)
  have HFD := Lib.hid (fun (h : S = 0) => feeds_in HOP.out (hS.trans h))
  rw [HN.out] at HFD
  rw [hS] at HR
  clear hS
  go_wp2_with fail
  go_loopw [5, 6] (fun e5 j wr => ∃ k : Nat, k ≤ ln ∧ j = .int .i64 k ∧ (∃ x, e5 = .int .i64 x) ∧ Below w.heap.size w wr ∧ Box wr w.heap.size 25 [.slice a1 ln n1, .slice a2 m n2] ∧ ckStL p k (st.drop k) = S) (fun _ j _ => ln - (intOf j).toNat)
  case atStart => exact ⟨0, by omega, rfl, ⟨_, rfl⟩, HB2.out, HX2.out, HS0.out⟩
  case round =>
    clear HB HX HB2 HX2 x0 x1 xf xz HS0
    obtain ⟨k, hk, rfl, ⟨x5, rfl⟩, hbe, hx, hrel⟩ := hrel
    have HL := Lib.hid hrel
    have HBE := Lib.hid hbe
    have HXE := Lib.hid hx
    clear hrel hbe hx
    by_cases hlt : k < ln
    rotate_left
    · obtain rfl : ln = k := by omega
      have HS1 := Lib.hid (show S = 0 by rw [← HL.out, ← HLN.out, List.drop_length]; rfl)
      rw [HS1.out, if_neg (by simp)] at HR
      have HV2 := Lib.hid (fun (w1 : World) (hb : Below w.heap.size w w1) => HVL.out w1 hb (by first | rfl | trivial) (HFD.out HS1.out))
      obtain ⟨q, hq⟩ : ∃ q, validB p st = q := ⟨_, rfl⟩
      rw [hq] at HR HV2
      clear hq HVL
      obtain ⟨x0, x1, xf, xz⟩ := HXE.out.v2
      go_wp2_with fail
      refine (HV2.out _ HBE.out).mono ?_
      rintro e w3 ⟨rfl, hb3⟩
      cases q
      all_goals
        go_wp2_with fail
        go_ret
        exact ⟨by rw [← HR.out]; rfl, HBE.out.trans (hb3.mono HBE.out.size)⟩
    have hkl : k < st.length := by rw [HLN.out]; exact hlt
    obtain ⟨b, off, rfl, hbb, hcells⟩ := HA.out (by omega)
    have HCK := Lib.hid (hcells k hkl)
    have hd := Lib.hid (ckStL_drop p st k hkl)
    have hsz := HSZ.out st[k] (List.getElem_mem hkl)
    have HSZK := Lib.hid hsz
    clear hsz hcells
    generalize st[k] = sk at *
    clear hkl
    have HCALL := Lib.hid (fun (w1 : World) (hb : Below w.heap.size w w1) => HST.out w1 hb k sk hlt HSZK.out HOP.out)
    obtain ⟨runs, feeds, grain⟩ := sk
    obtain ⟨E, hE⟩ : ∃ E, stE p k ⟨runs, feeds, grain⟩ = E := ⟨_, rfl⟩
    rw [hE] at HCALL hd
    clear hE HSZK
    obtain ⟨c0, c1, c2⟩ := (HCK.out.below HBE.out hbb).c3
    dsimp only at c0 c1 c2 HCALL
    have hbz : b < wr.heap.size := Nat.lt_of_lt_of_le hbb HBE.out.size
    obtain ⟨x0, x1, xf, xz⟩ := HXE.out.v2
    have HK := Lib.hid (fun (X : Later wr) => HCALL.out _ (HBE.out.trans (X.h.mono HBE.out.size)))
    go_wp2_with fail
    refine wp_region_later (by kernel_rfl) (by kernel_rfl) ?_
    repeat go_big_quiet_step ((go_at_call 97; exact Calls.later (HK.out _)))
    refine wpQuiet_nil ?_
    rintro w3 ⟨⟨_, hb3⟩, rfl⟩
    have HB4 := Lib.hid (HBE.out.trans (hb3.mono HBE.out.size))
    have HX3 := HXE
    by_cases hE0 : E = 0
    · subst hE0
      have HV := Lib.hid (show ckStL p (k + 1) (st.drop (k + 1)) = S by rw [← HL.out, hd.out, if_neg (by simp)])
      go_wp2_with fail
      go_roundw
      case rel => exact ⟨k + 1, by omega, by go_num, ⟨_, rfl⟩, HB4.out, HX3.out.later hb3, HV.out⟩
      case measure => simp [intOf]; omega
    · have k0 : (E != 0) = true := by simpa using hE0
      have HV := Lib.hid (show R = E by
        have h : S = E := by rw [← HL.out, hd.out, if_pos hE0]
        rw [← HR.out, h, if_pos hE0])
      clear hE0
      go_wp2_with fail
      go_ret
      exact ⟨by rw [HV.out]; rfl, HB4.out⟩

end Go.Proofs.YtahpdkkpnkhnhaaGreatDoor

/- Walks: whether two states are the same, in the reference. -/
namespace Go.Proofs.YtahpdkkpnkhnhaaGreatDoor
open Go Go.Proofs Go.RowKit Go.Shelf

set_option maxRecDepth 100000 in
set_option maxHeartbeats 1000000 in
@[go_sem] theorem eq100 (r1 r2 : Bool) (f1 f2 : Int) (g1 g2 : ByteArray) (w : World) : (Op.equalIn 10000 100 (.agg #[.bool r1, .int .i64 f1, .string g1]) (.agg #[.bool r2, .int .i64 f2, .string g2])).run Tryz.prog w = .ok (r1 == r2 && (f1 == f2 && g1.toList == g2.toList)) w := by
  have u3 := Tryz.underlying3
  have u4 := Tryz.underlying4
  have u9 := Tryz.underlying9
  have a3 := Tryz.isAgg3
  have a4 := Tryz.isAgg4
  have a9 := Tryz.isAgg9
  have z3 := Tryz.sizeOf3
  have z4 := Tryz.sizeOf4
  have z9 := Tryz.sizeOf9
  rw [show (10000 : Nat) = 9999 + 1 from rfl, Op.equalIn]
  simp only [Sem.run_bind, run_underlying Tryz.underlying100, Result.andThen_ok]
  go_simp
  by_cases h1 : r1 = r2 <;> by_cases h2 : f1 = f2 <;> by_cases h3 : g1.toList = g2.toList <;> simp [h1, h2, h3]
def eqX (a b : Sx) : Bool := a.runs == b.runs && (a.feeds == b.feeds && a.grain.toList == b.grain.toList)
def sameB : List Sx → List Sx → Bool
  | [], [] => true
  | a :: r, b :: s => eqX a b && sameB r s
  | _, _ => false
theorem sameB_refl : ∀ l : List Sx, sameB l l = true
  | [] => rfl
  | a :: r => by simp [sameB, eqX, sameB_refl r]
theorem sameB_len : ∀ {a b : List Sx}, sameB a b = true → a.length = b.length
  | [], [], _ => rfl
  | a :: r, b :: s, h => by
    simp only [sameB, Bool.and_eq_true] at h
    simp [sameB_len h.2]
  | [], _ :: _, h => by cases h
  | _ :: _, [], h => by cases h
theorem sameB_drop (a b : List Sx) (k : Nat) (h1 : k < a.length) (h2 : k < b.length) : sameB (a.drop k) (b.drop k) = (eqX a[k] b[k] && sameB (a.drop (k + 1)) (b.drop (k + 1))) := by
  rw [List.drop_eq_getElem_cons h1, List.drop_eq_getElem_cons h2]; rfl

set_option maxRecDepth 100000 in
set_option maxHeartbeats 1000000 in
theorem same69 (v v' : Value) (a b : List Sx) (w : World) (hv : Sl Sx.enc 3 w w.heap.size v a) (hv' : Sl Sx.enc 3 w w.heap.size v' b) : Calls Tryz.prog 69 #[v, v'] w (Ret (.bool (sameB a b)) w) := by
  obtain ⟨ad, c, rfl, hlen, hA⟩ := hv
  obtain ⟨ad', c', rfl, hlen', hA'⟩ := hv'
  have HA := Lib.hid hA
  clear hA
  have HA' := Lib.hid hA'
  clear hA'
  obtain ⟨R, hR⟩ : ∃ R, sameB a b = R := ⟨_, rfl⟩
  rw [hR]
  have HR0 := Lib.hid hR
  clear hR
  go_enter Tryz.func69, Tryz.ntmps69
  by_cases hl : a.length = b.length
  rotate_left
  · have HV := Lib.hid (show R = false by
      rw [← HR0.out]
      cases h : sameB a b with
      | false => rfl
      | true => exact absurd (sameB_len h) hl)
    have hl3 : ((a.length : Int) != (b.length : Int)) = true := by simp; omega
    clear hl
    go_wp2_with fail
    go_ret
    exact ⟨by rw [HV.out]; rfl, Below.refl _ _⟩
  have hl1 : a.length ≤ b.length := by omega
  have hl2 : b.length ≤ a.length := by omega
  have hl3 : ((a.length : Int) != (b.length : Int)) = false := by simp [hl]
  clear hl
  go_wp2_with fail
  go_loopw [5] (fun i wr => ∃ k : Nat, k ≤ a.length ∧ i = .int .i64 k ∧ Below w.heap.size w wr ∧ sameB (a.drop k) (b.drop k) = R) (fun i _ => a.length - (intOf i).toNat)
  case atStart => exact ⟨0, by omega, rfl, Below.refl _ _, HR0.out⟩
  case round =>
    obtain ⟨k, hk, rfl, hbe, hrel⟩ := hrel
    have HR := Lib.hid hrel
    have HBE := Lib.hid hbe
    clear hrel
    clear HR0
    by_cases hlt : k < a.length
    · obtain ⟨bb, off, rfl, hbb, hcells⟩ := HA.out (by omega)
      obtain ⟨bb', off', rfl, hbb', hcells'⟩ := HA'.out (by omega)
      have hd := Lib.hid (sameB_drop a b k hlt (by omega))
      obtain ⟨c0, c1, c2⟩ := ((hcells k hlt).below hbe hbb).c3
      obtain ⟨e0, e1, e2⟩ := ((hcells' k (by omega)).below hbe hbb').c3
      clear hcells HA hcells' HA'
      have hkb : k < b.length := by omega
      have hz := hbe.size
      have hz1 : bb < wr.heap.size := by omega
      have hz2 : bb' < wr.heap.size := by omega
      generalize a[k] = x at *
      generalize b[k] = y at *
      obtain ⟨r1, f1, g1⟩ := x
      obtain ⟨r2, f2, g2⟩ := y
      dsimp only at c0 c1 c2 e0 e1 e2
      have hx : eqX ⟨r1, f1, g1⟩ ⟨r2, f2, g2⟩ = (r1 == r2 && (f1 == f2 && g1.toList == g2.toList)) := rfl
      rw [hx] at hd
      obtain ⟨q1, h1⟩ : ∃ q, (r1 == r2) = q := ⟨_, rfl⟩
      obtain ⟨q2, h2⟩ : ∃ q, (f1 == f2) = q := ⟨_, rfl⟩
      obtain ⟨q3, h3⟩ : ∃ q, (g1.toList == g2.toList) = q := ⟨_, rfl⟩
      rw [h1, h2, h3] at hd
      clear hbe hx
      cases q1 with
      | false =>
        have HV := Lib.hid (show R = false by rw [← HR.out, hd.out]; rfl)
        go_wp2_with fail
        refine wp_region_later (by kernel_rfl) (by kernel_rfl) ?_
        repeat go_big_quiet_step (fail)
        refine wpQuiet_nil ?_
        rintro w2 ⟨⟨_, hb2⟩, rfl⟩
        go_wp2_with fail
        go_ret
        exact ⟨by rw [HV.out]; rfl, HBE.out.trans (hb2.mono HBE.out.size)⟩
      | true =>
      cases q2 with
      | false =>
        have HV := Lib.hid (show R = false by rw [← HR.out, hd.out]; rfl)
        go_wp2_with fail
        refine wp_region_later (by kernel_rfl) (by kernel_rfl) ?_
        repeat go_big_quiet_step (fail)
        refine wpQuiet_nil ?_
        rintro w2 ⟨⟨_, hb2⟩, rfl⟩
        go_wp2_with fail
        go_ret
        exact ⟨by rw [HV.out]; rfl, HBE.out.trans (hb2.mono HBE.out.size)⟩
      | true =>
      cases q3 with
      | false =>
        have HV := Lib.hid (show R = false by rw [← HR.out, hd.out]; rfl)
        go_wp2_with fail
        refine wp_region_later (by kernel_rfl) (by kernel_rfl) ?_
        repeat go_big_quiet_step (fail)
        refine wpQuiet_nil ?_
        rintro w2 ⟨⟨_, hb2⟩, rfl⟩
        go_wp2_with fail
        go_ret
        exact ⟨by rw [HV.out]; rfl, HBE.out.trans (hb2.mono HBE.out.size)⟩
      | true =>
        have HV := Lib.hid (show sameB (a.drop (k + 1)) (b.drop (k + 1)) = R by rw [← HR.out, hd.out]; rfl)
        go_wp2_with fail
        refine wp_region_later (by kernel_rfl) (by kernel_rfl) ?_
        repeat go_big_quiet_step (fail)
        refine wpQuiet_nil ?_
        rintro w2 ⟨⟨_, hb2⟩, rfl⟩
        go_wp2_with fail
        go_roundw
        case rel => exact ⟨k + 1, by omega, by go_num, HBE.out.trans (hb2.mono HBE.out.size), HV.out⟩
        case measure => simp [intOf]; omega
    · obtain rfl : a.length = k := by omega
      have HV := Lib.hid (show R = true by rw [← HR.out, List.drop_length, List.drop_of_length_le (by omega)]; rfl)
      clear hbe
      go_wp2_with fail
      go_ret
      exact ⟨by rw [HV.out]; rfl, HBE.out⟩
end Go.Proofs.YtahpdkkpnkhnhaaGreatDoor

/- Walks: small helpers of the laws on states; whether a machine is fed. -/
namespace Go.Proofs.YtahpdkkpnkhnhaaGreatDoor
open Go Go.Proofs Go.RowKit Go.Shelf

/-- A slice of whatever length reads as a list. -/
def SlL {α : Type} (f : α → List Value) (sz : Nat) (w : World) (B : Nat) (v : Value) (l : List α) : Prop :=
  ∃ a c, v = .slice a l.length c ∧ (l.length ≤ 9223372036854775807 ∧ l.length ≤ c) ∧ (0 < l.length → ∃ b off, a = some ⟨b, off, none⟩ ∧ b < B ∧
    ∀ i (h : i < l.length), At w b (off + i * sz) (f l[i]))
theorem SlL.later {α : Type} {f : α → List Value} {sz : Nat} {w w' : World} {v : Value} {l : List α} (h : SlL f sz w w.heap.size v l) (hb : Below w.heap.size w w') : SlL f sz w' w'.heap.size v l := by
  obtain ⟨a, c, h1, h2, h3⟩ := h
  refine ⟨a, c, h1, h2, fun h0 => ?_⟩
  obtain ⟨b, off, h4, h5, h6⟩ := h3 h0
  exact ⟨b, off, h4, Nat.lt_of_lt_of_le h5 hb.size, fun i hi => (h6 i hi).below hb h5⟩
theorem SlL.short {α : Type} {f : α → List Value} {sz : Nat} {w : World} {B : Nat} {v : Value} {l : List α} (h : SlL f sz w B v l) (hl : l.length ≤ 1000000000) : Sl f sz w B v l := by
  obtain ⟨a, c, h1, h2, h3⟩ := h
  exact ⟨a, c, h1, ⟨hl, h2.2⟩, h3⟩
/-- Is a state too long for the laws? -/
def longB (st : List Sx) : Bool := st.any (fun s => decide (40 < s.grain.size)) || decide (80 < st.length)
theorem longB_no {st : List Sx} (h : longB st = false) : st.length ≤ 80 ∧ ∀ s ∈ st, s.grain.size ≤ 40 := by
  unfold longB at h
  simp only [Bool.or_eq_false_iff, List.any_eq_false, decide_eq_true_eq, decide_eq_false_iff_not, Nat.not_lt] at h
  exact ⟨h.2, h.1⟩

set_option maxRecDepth 100000 in
set_option maxHeartbeats 1000000 in
theorem long25 (v : Value) (st : List Sx) (w : World) (hv : SlL Sx.enc 3 w w.heap.size v st) (hs : SzR st) : Calls Tryz.prog 25 #[v] w (Ret (.bool (longB st)) w) := by
  obtain ⟨ad, c, rfl, hlen, hA⟩ := hv
  have HA := Lib.hid hA
  have HS := Lib.hid hs
  clear hA hs
  obtain ⟨hl1, hl2⟩ := hlen
  obtain ⟨R, hR⟩ : ∃ R, longB st = R := ⟨_, rfl⟩
  rw [hR]
  unfold longB at hR
  obtain ⟨g, hg⟩ : ∃ g, decide (80 < st.length) = g := ⟨_, rfl⟩
  rw [hg] at hR
  have HR0 := Lib.hid hR
  have HG := Lib.hid hg
  clear hR hg
  go_enter Tryz.func25, Tryz.ntmps25
  go_wp2_with fail
  go_loopw [3] (fun i wr => ∃ k : Nat, k ≤ st.length ∧ i = .int .i64 k ∧ Below w.heap.size w wr ∧ ((st.drop k).any (fun s => decide (40 < s.grain.size)) || g) = R) (fun i _ => st.length - (intOf i).toNat)
  case atStart => exact ⟨0, by omega, rfl, Below.refl _ _, HR0.out⟩
  case round =>
    obtain ⟨k, hk, rfl, hbe, hrel⟩ := hrel
    have HR := Lib.hid hrel
    have HBE := Lib.hid hbe
    clear hrel HR0
    by_cases hlt : k < st.length
    · obtain ⟨bb, off, rfl, hbb, hcells⟩ := HA.out (by omega)
      have HD := Lib.hid (show (decide (40 < st[k].grain.size) || ((st.drop (k + 1)).any (fun s => decide (40 < s.grain.size)) || g)) = R by
        have h := HR.out
        rw [List.drop_eq_getElem_cons hlt, List.any_cons, Bool.or_assoc] at h
        exact h)
      obtain ⟨c0, c1, c2⟩ := ((hcells k hlt).below hbe hbb).c3
      have hsk := HS.out _ (List.getElem_mem hlt)
      clear hcells HA
      have hz := hbe.size
      have hz1 : bb < wr.heap.size := by omega
      generalize st[k] = x at *
      obtain ⟨r1, f1, g1⟩ := x
      dsimp only at c0 c1 c2 HD hsk
      clear hbe
      by_cases h4 : 40 < g1.size
      · have d1 : decide ((40 : Int) < (g1.size : Int)) = true := decide_eq_true (by omega)
        have HV := Lib.hid (show R = true by rw [← HD.out, decide_eq_true h4]; rfl)
        clear h4
        go_wp2_with fail
        go_ret
        exact ⟨by rw [HV.out]; rfl, HBE.out⟩
      · have d1 : decide ((40 : Int) < (g1.size : Int)) = false := decide_eq_false (by omega)
        have HV := Lib.hid (show ((st.drop (k + 1)).any (fun s => decide (40 < s.grain.size)) || g) = R by rw [← HD.out, decide_eq_false h4]; rfl)
        clear h4
        go_wp2_with fail
        go_roundw
        case rel => exact ⟨k + 1, by omega, by go_num, HBE.out, HV.out⟩
        case measure => simp [intOf]; omega
    · obtain rfl : st.length = k := by omega
      have HV := Lib.hid (show R = g by rw [← HR.out, List.drop_length]; rfl)
      have hg2 : decide ((80 : Int) < (st.length : Int)) = g := by
        rw [← HG.out, decide_eq_decide]
        omega
      clear hbe
      go_wp2_with fail
      go_ret
      exact ⟨by rw [HV.out]; rfl, HBE.out⟩

set_option maxRecDepth 100000 in
set_option maxHeartbeats 1000000 in
theorem states30_bad (a : Option Addr) (c : Nat) (e : Int) (v : Value) (w : World) (he : e ≠ 0) : Calls Tryz.prog 30 #[.slice a 0 c, .int .i64 e, .int .i64 e, v] w (Ret (.bool true) w) := by
  have k0 : (e != 0) = true := by simpa using he
  clear he
  go_enter Tryz.func30, Tryz.ntmps30
  go_wp2_with fail
  go_ret
  exact ⟨rfl, Below.refl _ _⟩
set_option maxRecDepth 100000 in
set_option maxHeartbeats 1000000 in
theorem states30_good (v v' : Value) (l : List Sx) (w : World) (hv : Sl Sx.enc 3 w w.heap.size v l) (hv' : Sl Sx.enc 3 w w.heap.size v' l) : Calls Tryz.prog 30 #[v, .int .i64 0, .int .i64 0, v'] w (Ret (.bool true) w) := by
  have H69 := Lib.hid (same69 v v' l l w hv hv')
  rw [sameB_refl] at H69
  clear hv hv'
  go_enter Tryz.func30, Tryz.ntmps30
  go_wp2_with fail
  refine H69.out.mono ?_
  rintro e w2 ⟨rfl, hb2⟩
  have HB2 := Lib.hid hb2
  clear hb2
  go_wp2_with fail
  go_ret
  exact ⟨rfl, HB2.out⟩

set_option maxRecDepth 100000 in
set_option maxHeartbeats 1000000 in
theorem isFed99 (v : Value) (st : List Sx) (x : Int) (w : World) (hv : Sl Sx.enc 3 w w.heap.size v st) : Calls Tryz.prog 99 #[v, .int .i64 x] w (Ret (.bool (st.any (fun s => s.feeds == x))) w) := by
  obtain ⟨ad, c, rfl, hlen, hA⟩ := hv
  have HA := Lib.hid hA
  clear hA
  obtain ⟨hl1, hl2⟩ := hlen
  obtain ⟨R, hR⟩ : ∃ R, st.any (fun s => s.feeds == x) = R := ⟨_, rfl⟩
  rw [hR]
  have HR0 := Lib.hid hR
  clear hR
  go_enter Tryz.func99, Tryz.ntmps99
  go_wp2_with fail
  go_loopw [5] (fun i wr => ∃ k : Nat, k ≤ st.length ∧ i = .int .i64 k ∧ Below w.heap.size w wr ∧ ((st.drop k).any (fun s => s.feeds == x)) = R) (fun i _ => st.length - (intOf i).toNat)
  case atStart => exact ⟨0, by omega, rfl, Below.refl _ _, HR0.out⟩
  case round =>
    obtain ⟨k, hk, rfl, hbe, hrel⟩ := hrel
    have HR := Lib.hid hrel
    have HBE := Lib.hid hbe
    clear hrel HR0
    by_cases hlt : k < st.length
    · obtain ⟨bb, off, rfl, hbb, hcells⟩ := HA.out (by omega)
      have HD := Lib.hid (show ((st[k].feeds == x) || (st.drop (k + 1)).any (fun s => s.feeds == x)) = R by
        have h := HR.out
        rw [List.drop_eq_getElem_cons hlt, List.any_cons] at h
        exact h)
      obtain ⟨c0, c1, c2⟩ := ((hcells k hlt).below hbe hbb).c3
      clear hcells HA
      have hz := hbe.size
      have hz1 : bb < wr.heap.size := by omega
      generalize st[k] = y at *
      obtain ⟨r1, f1, g1⟩ := y
      dsimp only at c0 c1 c2 HD
      clear hbe
      cases h4 : f1 == x with
      | true =>
        have HV := Lib.hid (show R = true by rw [← HD.out, h4]; rfl)
        go_wp2_with fail
        go_ret
        exact ⟨by rw [HV.out]; rfl, HBE.out⟩
      | false =>
        have HV := Lib.hid (show ((st.drop (k + 1)).any (fun s => s.feeds == x)) = R by rw [← HD.out, h4]; rfl)
        go_wp2_with fail
        go_roundw
        case rel => exact ⟨k + 1, by omega, by go_num, HBE.out, HV.out⟩
        case measure => simp [intOf]; omega
    · obtain rfl : st.length = k := by omega
      have HV := Lib.hid (show R = false by rw [← HR.out, List.drop_length]; rfl)
      clear hbe
      go_wp2_with fail
      go_ret
      exact ⟨by rw [HV.out]; rfl, HBE.out⟩
end Go.Proofs.YtahpdkkpnkhnhaaGreatDoor

/- Walks: CheckStart of the reference. -/
namespace Go.Proofs.YtahpdkkpnkhnhaaGreatDoor
open Go Go.Proofs Go.RowKit Go.Shelf

theorem kn_bin (s : ByteArray) : decide (kn s = 1) = isW s 1 := by
  rw [kn_eq]
  cases h1 : isW s 1 with
  | true => rw [isW_no (by omega) h1 (by omega : 0 < 8) (by omega)]; simp
  | false => simp only [Bool.false_eq_true, if_false]; repeat (first | rfl | split)
set_option maxRecDepth 100000 in
set_option maxHeartbeats 1000000 in
theorem checkStart29 (w : World) (v1 v2 u y : Value) (gn : ByteArray) (p : Pl) (st : List Sx) (l : List Int) (hv : PlR w w.heap.size v1 v2 p) (hu : Sl Sx.enc 3 w w.heap.size u st) (hx : Sl encI 1 w w.heap.size y l) (hin : ∀ y ∈ l, inN p.ms.length y = true) (hln : st.length = p.ms.length) : Calls Tryz.prog 29 #[.agg #[v1, v2], u, y, .string gn] w (Ret (.int .i64 (startL p st gn 0 l)) w) := by
  have HFE := Lib.hid (fun (w1 : World) (hb : Below w.heap.size w w1) x => isFed99 u st x w1 (hu.later hb))
  obtain ⟨⟨a1, n1, rfl, hl1, hA1⟩, ⟨a2, n2, rfl, hl2, hA2⟩⟩ := hv
  obtain ⟨a, c, rfl, hlen, hA⟩ := hx
  obtain ⟨a3, n3, rfl, hl3, hA3⟩ := hu
  have HA1 := Lib.hid hA1
  have HA := Lib.hid hA
  have HA3 := Lib.hid hA3
  have HIN := Lib.hid hin
  clear hA1 hA2 hA hl2 hA3 hin
  obtain ⟨h11, h12⟩ := hl1
  obtain ⟨h31, h32⟩ := hl3
  obtain ⟨hl, hlc⟩ := hlen
  have HB := Lib.hid ((Below.refl w.heap.size w).alloc (Nat.le_refl _) (.cells #[.slice a1 p.ms.length n1, .slice a2 p.arcs.length n2] 25))
  have HX := Lib.hid (Box.new w #[.slice a1 p.ms.length n1, .slice a2 p.arcs.length n2] 25)
  obtain ⟨E, hE⟩ : ∃ E, startL p st gn 0 l = E := ⟨_, rfl⟩
  rw [hE]
  have HE := Lib.hid (show startL p st gn 0 (l.drop 0) = E from hE)
  clear hE
  obtain ⟨n, hn⟩ : ∃ n, p.ms.length = n := ⟨_, rfl⟩
  obtain ⟨m, hm⟩ : ∃ m, p.arcs.length = m := ⟨_, rfl⟩
  obtain ⟨ln, hll⟩ : ∃ m, l.length = m := ⟨_, rfl⟩
  rw [hn] at HB HX h11 h12 hln HIN ⊢
  rw [hm] at HB HX ⊢
  rw [hll] at hl hlc ⊢
  rw [hln] at h31 h32 HFE ⊢
  have HN := Lib.hid hn
  have HLN := Lib.hid hll
  have HSN := Lib.hid hln
  clear hn hm hll hln
  go_enter Tryz.func29, Tryz.ntmps29
  go_wp2_with fail
  go_loopw [9] (fun i wr => ∃ k : Nat, k ≤ ln ∧ i = .int .i64 k ∧ Below w.heap.size w wr ∧ Box wr w.heap.size 25 [.slice a1 n n1, .slice a2 m n2] ∧ startL p st gn k (l.drop k) = E) (fun i _ => ln - (intOf i).toNat)
  case atStart => exact ⟨0, by omega, rfl, HB.out, HX.out, HE.out⟩
  case round =>
    clear HB HX HE
    obtain ⟨k, hk, rfl, hbe, hx, hrel⟩ := hrel
    have HL := Lib.hid hrel
    have HBE := Lib.hid hbe
    have HXE := Lib.hid hx
    clear hrel hbe hx
    by_cases hlt : k < ln
    rotate_left
    · obtain rfl : ln = k := by omega
      have HV := Lib.hid (show E = 0 by rw [← HL.out, ← HLN.out, List.drop_length]; rfl)
      go_wp2_with fail
      go_ret
      exact ⟨by rw [HV.out]; rfl, HBE.out⟩
    have hkl : k < l.length := by rw [HLN.out]; exact hlt
    obtain ⟨b, off, rfl, hbb, hcells⟩ := HA.out (by omega)
    have c0 := ((hcells k hkl).below HBE.out hbb).c1
    rw [Nat.mul_one] at c0
    have hbz : b < wr.heap.size := Nat.lt_of_lt_of_le hbb HBE.out.size
    obtain ⟨x, hy, hxn⟩ := inN_nat (HIN.out l[k] (List.getElem_mem hkl))
    rw [hy] at c0
    have hxl : x < p.ms.length := by rw [HN.out]; exact hxn
    have hxs : x < st.length := by rw [HSN.out]; exact hxn
    obtain ⟨b1, off1, rfl, hbb1, hcells1⟩ := HA1.out (by omega)
    obtain ⟨b3, off3, rfl, hbb3, hcells3⟩ := HA3.out (by omega)
    have HCM := Lib.hid (hcells1 x hxl)
    have HCS := Lib.hid (hcells3 x hxs)
    have HKD := Lib.hid (kdA_nat hxl)
    have HGS := Lib.hid (stGet hxs)
    have HD := Lib.hid (startL_drop p st gn l k hkl)
    rw [hy] at HD
    have HSK := Lib.hid (show startK p st gn k (x : Int) = if ((st.getD x s0).runs || decide (0 ≤ (st.getD x s0).feeds) || st.any (fun s => s.feeds == (x : Int))) = true then 26
      else if (decide (k = 0) && decide (kn (kdA p x) = 1) && (st.getD x s0).grain.toList.isEmpty) = true then 13
      else if (!(st.getD x s0).grain.toList.isEmpty && !((st.getD x s0).grain.toList == gn.toList)) = true then 16 else 0 from rfl)
    rw [HGS.out, HKD.out, kn_bin] at HSK
    clear hcells hcells1 hcells3 hy hkl HKD HGS
    generalize p.ms[x] = mx at *
    generalize st[x] = sx at *
    clear hxl hxs
    obtain ⟨sm, tm⟩ := mx
    obtain ⟨rn, fd, gr⟩ := sx
    dsimp only at HSK
    obtain ⟨d0, d1, d2⟩ := (HCS.out.below HBE.out hbb3).c3
    dsimp only at d0 d1 d2
    have hb3z : b3 < wr.heap.size := Nat.lt_of_lt_of_le hbb3 HBE.out.size
    have HB := Lib.hid (HBE.out.alloc (by have := HBE.out.size; omega) (.cells #[.bool rn, .int .i64 fd, .string gr] 100))
    have HX := Lib.hid (HXE.out.alloc (.cells #[.bool rn, .int .i64 fd, .string gr] 100))
    have HS := Lib.hid (Box.new wr #[.bool rn, .int .i64 fd, .string gr] 100)
    have HF := Lib.hid (fun (w1 : World) (hb : Below w.heap.size w w1) => HFE.out w1 hb (x : Int))
    obtain ⟨qf, hqf⟩ : ∃ q, st.any (fun s => s.feeds == (x : Int)) = q := ⟨_, rfl⟩
    rw [hqf] at HF HSK
    clear hqf
    obtain ⟨ge, hge⟩ : ∃ q, gr.toList.isEmpty = q := ⟨_, rfl⟩
    obtain ⟨gq, hgq⟩ : ∃ q, (gr.toList == gn.toList) = q := ⟨_, rfl⟩
    obtain ⟨kb, hkb⟩ : ∃ q, isW sm 1 = q := ⟨_, rfl⟩
    rw [hge, hgq, hkb] at HSK
    replace hkb : (sm.toList == [98, 105, 110]) = kb := hkb
    have HGE := Lib.hid hge
    have HGQ := Lib.hid hgq
    have HKB := Lib.hid hkb
    clear hge hgq hkb
    have X0 := HX.out.cell 0
    have X1 := HX.out.cell 1
    have Xz := HX.out.lt
    have S0 := HS.out.cell 0
    have S1 := HS.out.cell 1
    have S2 := HS.out.cell 2
    have Sz := HS.out.lt
    simp only [List.getElem?_cons_zero, List.getElem?_cons_succ] at X0 X1 S0 S1 S2
    obtain ⟨m0, m1⟩ := (HCM.out.below HB.out hbb1).c2
    have b1z := Nat.lt_of_lt_of_le hbb1 HB.out.size
    dsimp only at m0 m1
    cases rn with
    | true =>
      have HV := Lib.hid (show E = 26 by rw [← HL.out, HD.out, HSK.out]; rfl)
      go_wp2_with fail
      go_ret
      exact ⟨by rw [HV.out]; rfl, HB.out⟩
    | false =>
      by_cases hf0 : 0 ≤ fd
      · have dd0 : decide (0 ≤ fd) = true := decide_eq_true hf0
        rw [dd0] at HSK
        clear hf0
        have HV := Lib.hid (show E = 26 by rw [← HL.out, HD.out, HSK.out]; rfl)
        go_wp2_with fail
        go_ret
        exact ⟨by rw [HV.out]; rfl, HB.out⟩
      have dd0 : decide (0 ≤ fd) = false := decide_eq_false hf0
      rw [dd0] at HSK
      clear hf0
      go_wp2_with fail
      refine (HF.out _ HB.out).mono ?_
      rintro e21 w21 ⟨rfl, hb⟩
      have HB21 := Lib.hid (HB.out.trans (hb.mono HB.out.size))
      have HX21 := Lib.hid (HX.out.later hb)
      have HS21 := Lib.hid (HS.out.later hb)
      clear hb
      clear X0 X1 Xz S0 S1 S2 Sz m0 m1 b1z c0 hbz d0 d1 d2 hb3z
      have X0 := HX21.out.cell 0
      have X1 := HX21.out.cell 1
      have Xz := HX21.out.lt
      have S0 := HS21.out.cell 0
      have S1 := HS21.out.cell 1
      have S2 := HS21.out.cell 2
      have Sz := HS21.out.lt
      simp only [List.getElem?_cons_zero, List.getElem?_cons_succ] at X0 X1 S0 S1 S2
      obtain ⟨m0, m1⟩ := (HCM.out.below HB21.out hbb1).c2
      have b1z := Nat.lt_of_lt_of_le hbb1 HB21.out.size
      dsimp only at m0 m1
      cases qf with
      | true =>
        have HV := Lib.hid (show E = 26 by rw [← HL.out, HD.out, HSK.out]; rfl)
        go_wp2_with fail
        go_ret
        exact ⟨by rw [HV.out]; rfl, HB21.out⟩
      | false =>
        by_cases hk0 : k = 0
        · have dk0 : ((k : Int) == 0) = true := by simp [hk0]
          rw [decide_eq_true hk0] at HSK
          clear hk0
          have kbf := HKB.out
          cases kb with
          | true =>
            have ge2 := HGE.out
            cases ge with
            | true =>
              have g0 := empty_of ge2
              have HV := Lib.hid (show E = 13 by rw [← HL.out, HD.out, HSK.out]; rfl)
              go_wp2_with fail
              go_ret
              exact ⟨by rw [HV.out]; rfl, HB21.out⟩
            | false =>
              have g0 := ne_empty_of ge2
              have gqf := HGQ.out
              have gqn := bne_of gqf
              cases gq with
              | true =>
                have HV := Lib.hid (show startL p st gn (k + 1) (l.drop (k + 1)) = E by rw [← HL.out, HD.out, HSK.out]; rfl)
                go_wp2_with fail
                go_roundw
                case rel => exact ⟨k + 1, by omega, by go_num, HB21.out, HX21.out, HV.out⟩
                case measure => simp [intOf]; omega
              | false =>
                have HV := Lib.hid (show E = 16 by rw [← HL.out, HD.out, HSK.out]; rfl)
                go_wp2_with fail
                go_ret
                exact ⟨by rw [HV.out]; rfl, HB21.out⟩
          | false =>
            have ge2 := HGE.out
            cases ge with
            | true =>
              have g0 := empty_of ge2
              have HV := Lib.hid (show startL p st gn (k + 1) (l.drop (k + 1)) = E by rw [← HL.out, HD.out, HSK.out]; rfl)
              go_wp2_with fail
              go_roundw
              case rel => exact ⟨k + 1, by omega, by go_num, HB21.out, HX21.out, HV.out⟩
              case measure => simp [intOf]; omega
            | false =>
              have g0 := ne_empty_of ge2
              have gqf := HGQ.out
              have gqn := bne_of gqf
              cases gq with
              | true =>
                have HV := Lib.hid (show startL p st gn (k + 1) (l.drop (k + 1)) = E by rw [← HL.out, HD.out, HSK.out]; rfl)
                go_wp2_with fail
                go_roundw
                case rel => exact ⟨k + 1, by omega, by go_num, HB21.out, HX21.out, HV.out⟩
                case measure => simp [intOf]; omega
              | false =>
                have HV := Lib.hid (show E = 16 by rw [← HL.out, HD.out, HSK.out]; rfl)
                go_wp2_with fail
                go_ret
                exact ⟨by rw [HV.out]; rfl, HB21.out⟩
        have dk0 : ((k : Int) == 0) = false := beq_eq_false_iff_ne.2 (by omega)
        rw [decide_eq_false hk0, Bool.false_and, Bool.false_and] at HSK
        clear hk0
        have ge2 := HGE.out
        cases ge with
        | true =>
          have g0 := empty_of ge2
          have HV := Lib.hid (show startL p st gn (k + 1) (l.drop (k + 1)) = E by rw [← HL.out, HD.out, HSK.out]; rfl)
          go_wp2_with fail
          go_roundw
          case rel => exact ⟨k + 1, by omega, by go_num, HB21.out, HX21.out, HV.out⟩
          case measure => simp [intOf]; omega
        | false =>
          have g0 := ne_empty_of ge2
          have gqf := HGQ.out
          have gqn := bne_of gqf
          cases gq with
          | true =>
            have HV := Lib.hid (show startL p st gn (k + 1) (l.drop (k + 1)) = E by rw [← HL.out, HD.out, HSK.out]; rfl)
            go_wp2_with fail
            go_roundw
            case rel => exact ⟨k + 1, by omega, by go_num, HB21.out, HX21.out, HV.out⟩
            case measure => simp [intOf]; omega
          | false =>
            have HV := Lib.hid (show E = 16 by rw [← HL.out, HD.out, HSK.out]; rfl)
            go_wp2_with fail
            go_ret
            exact ⟨by rw [HV.out]; rfl, HB21.out⟩
end Go.Proofs.YtahpdkkpnkhnhaaGreatDoor

/- Walks: Start of the reference. -/
namespace Go.Proofs.YtahpdkkpnkhnhaaGreatDoor
open Go Go.Proofs Go.RowKit Go.Shelf

set_option maxRecDepth 100000 in
set_option maxHeartbeats 1000000 in
theorem start31 (w : World) (v1 v2 u y : Value) (gn : ByteArray) (p : Pl) (st : List Sx) (l : List Int) (hv : PlR w w.heap.size v1 v2 p) (hu : Sl Sx.enc 3 w w.heap.size u st) (hx : Sl encI 1 w w.heap.size y l) (hin : ∀ y ∈ l, inN p.ms.length y = true) (hln : st.length = p.ms.length) (hpos : 0 < p.ms.length) : Calls Tryz.prog 31 #[.agg #[v1, v2], u, y, .string gn] w (StatePost w (startTo p l gn st l.length)) := by
  have HPL := Lib.hid (fun (w1 : World) (hb : Below w.heap.size w w1) (x : Nat) hx => holds100 w1 _ _ p x (hv.later hb) hx)
  obtain ⟨⟨a1, n1, rfl, hl1, hA1⟩, ⟨a2, n2, rfl, hl2, hA2⟩⟩ := hv
  obtain ⟨a, c, rfl, hlen, hA⟩ := hx
  obtain ⟨a3, n3, rfl, hl3, hA3⟩ := hu
  obtain ⟨b3, off3, e3, hbb3, hcells3⟩ := hA3 (by omega)
  obtain ⟨q3, hq3⟩ : ∃ q, (⟨b3, off3, none⟩ : Addr) = q := ⟨_, rfl⟩
  rw [hq3] at e3
  subst e3
  have HA1 := Lib.hid hA1
  have HA := Lib.hid hA
  have HIN := Lib.hid hin
  clear hA1 hA2 hA hl2 hin hA3
  obtain ⟨h11, h12⟩ := hl1
  obtain ⟨hl, hlc⟩ := hlen
  obtain ⟨h31, h32⟩ := hl3
  have HB := Lib.hid ((Below.refl w.heap.size w).alloc (Nat.le_refl _) (.cells #[.slice a1 p.ms.length n1, .slice a2 p.arcs.length n2] 25))
  have HX := Lib.hid (Box.new w #[.slice a1 p.ms.length n1, .slice a2 p.arcs.length n2] 25)
  obtain ⟨n, hn⟩ : ∃ n, p.ms.length = n := ⟨_, rfl⟩
  obtain ⟨m, hm⟩ : ∃ m, p.arcs.length = m := ⟨_, rfl⟩
  obtain ⟨ln, hll⟩ : ∃ m, l.length = m := ⟨_, rfl⟩
  rw [hn] at HB HX h11 h12 HIN hln hpos HPL ⊢
  rw [hm] at HB HX HPL ⊢
  rw [hll] at hl hlc ⊢
  have HN := Lib.hid hn
  have HLN := Lib.hid hll
  have HST := Lib.hid (fun k => (startTo_len p l gn st k).trans hln)
  obtain ⟨Q, hQ⟩ : ∃ Q, StatePost w (startTo p l gn st ln) = Q := ⟨_, rfl⟩
  rw [hQ]
  have HQ : Hid (∀ (v : Value) (w' : World), Own Sx.enc 3 100 w' w.heap.size v (startTo p l gn st ln) → Below w.heap.size w w' → Q (.returned v) w') := Lib.hid (fun v w' h1 h2 => by rw [← hQ]; exact ⟨v, rfl, h1, h2⟩)
  clear hQ hn hm hll
  have HBa := Lib.hid ((Below.refl (w.alloc (.cells #[.slice a1 n n1, .slice a2 m n2] 25)).heap.size (w.alloc (.cells #[.slice a1 n n1, .slice a2 m n2] 25))).alloc (Nat.le_refl _) (.cells #[] 100))
  have HAT := Lib.hid (show ∀ i (h : i < st.length), ∀ j u, (Sx.enc st[i])[j]? = some u → ((w.alloc (.cells #[.slice a1 n n1, .slice a2 m n2] 25)).alloc (.cells #[] 100)).cell? (q3.add (i * 3 + j)) = some u from by
    intro i h j u hu
    subst hq3
    have h1 := ((hcells3 i h).below (HB.out.trans (HBa.out.mono HB.out.size)) hbb3) j u hu
    rw [Addr.add_lit, ← Nat.add_assoc]
    exact h1)
  have hwl := Own.lit (l := []) Sx.enc_len 100 (w.alloc (.cells #[.slice a1 n n1, .slice a2 m n2] 25)) #[] 0 (w.alloc (.cells #[.slice a1 n n1, .slice a2 m n2] 25)).heap.size rfl rfl (by simp) (Nat.le_refl _)
  simp only [World.size_alloc] at hwl
  have HWL := Lib.hid hwl
  have HX2 := Lib.hid (HX.out.alloc (.cells #[] 100))
  have hsl : st.length ≤ 1000000000 := by omega
  clear hcells3 hwl hq3 hbb3
  go_enter Tryz.func31, Tryz.ntmps31
  go_wp2_with (at_builtin; refine wpList_cat Sx.enc 3 32 39 100 _ Tryz.underlying39 infoSx rfl (by decide) (by decide) Sx.enc_len Sx.enc_one [] st (w.heap.size + 1) ((w.alloc (.cells #[.slice a1 n n1, .slice a2 m n2] 25)).alloc (.cells #[] 100)) (.slice (some ⟨w.heap.size + 1, 0, none⟩) 0 0) HWL.out (by simp) (by simp; omega) q3 n3 HAT.out rfl _ _ rfl rfl rfl ?_; intro v' w' hown' hg')
  have hown2 : Own Sx.enc 3 100 w' (w.heap.size + 1) v' st := by simpa using hown'
  have HB2 := Lib.hid ((HB.out.alloc (by simp) (.cells #[] 100)).grown hg' (by simp; omega) fun j hj => by
    have : w.heap.size + 1 = j := Option.some.inj hj
    omega)
  have HX3 := Lib.hid (HX2.out.kept hg' (fun e => by have : w.heap.size = w.heap.size + 1 := Option.some.inj e; omega))
  obtain ⟨g, cap, hvv, hg1, hg2⟩ := hown2.form (by omega)
  rw [hln] at hvv
  subst hvv
  have HO2 := Lib.hid hown2
  have hgw : w.heap.size < g := by omega
  clear hown' hown2 hg' hg1 hg2 HWL HAT HBa HB HX HX2
  go_loopw [11, 10] (fun e11 j wr => ∃ k : Nat, k ≤ ln ∧ j = .int .i64 k ∧ Below w.heap.size w wr ∧ Box wr w.heap.size 25 [.slice a1 n n1, .slice a2 m n2] ∧ Own Sx.enc 3 100 wr (w.heap.size + 1) (.slice (some ⟨g, 0, none⟩) n cap) (startTo p l gn st k)) (fun _ j _ => ln - (intOf j).toNat)
  case atStart => exact ⟨0, by omega, rfl, HB2.out, HX3.out, HO2.out⟩
  case round =>
    clear HB2 HX3 HO2
    obtain ⟨k, hk, rfl, hbe, hx, hown⟩ := hrel
    have HBE := Lib.hid hbe
    have HXE := Lib.hid hx
    have HOE := Lib.hid hown
    clear hbe hx hown
    by_cases hlt : k < ln
    rotate_left
    · obtain rfl : ln = k := by omega
      go_wp2_with fail
      exact HQ.out _ _ (HOE.out.lower (show w.heap.size ≤ w.heap.size + 1 by omega)) HBE.out
    have hkl : k < l.length := by rw [HLN.out]; exact hlt
    obtain ⟨b, off, rfl, hbb, hcells⟩ := HA.out (by omega)
    have c0 := ((hcells k hkl).below HBE.out hbb).c1
    rw [Nat.mul_one] at c0
    have hbz : b < wr.heap.size := Nat.lt_of_lt_of_le hbb HBE.out.size
    obtain ⟨x, hy, hxn⟩ := inN_nat (HIN.out l[k] (List.getElem_mem hkl))
    rw [hy] at c0
    have HLK := Lib.hid (show l.getD k 0 = (x : Int) by rw [getD_at l k hkl, hy])
    have hxl : x < p.ms.length := by rw [HN.out]; exact hxn
    have HPX := Lib.hid (fun w1 hb => HPL.out w1 hb x hxn)
    obtain ⟨b1, off1, rfl, hbb1, hcells1⟩ := HA1.out (by omega)
    have HCM := Lib.hid (hcells1 x hxl)
    have HKD := Lib.hid (kdA_nat hxl)
    have HSU := Lib.hid (startTo_succ p l gn st k x HLK.out)
    have HLL := Lib.hid (HST.out k)
    have HSE := Lib.hid (set_self (startTo p l gn st k) x (by rw [HLL.out]; exact hxn))
    have HCB := Lib.hid hcells
    clear hcells hcells1 hy hkl
    generalize startTo p l gn st k = L at *
    rw [← HSE.out] at HOE
    unfold startV at HSU
    rw [HLK.out, HKD.out, HLN.out] at HSU
    rw [HKD.out] at HPX
    generalize p.ms[x] = mx at *
    generalize L.getD x s0 = sx at *
    clear hxl HSE HKD HLK
    obtain ⟨sm, tm⟩ := mx
    obtain ⟨rn, fd, gr⟩ := sx
    dsimp only at HSU HPX
    have HK42 := Lib.hid (fun w1 => isConveyor42 sm w1)
    obtain ⟨qc, hqc⟩ : ∃ q, cvB sm = q := ⟨_, rfl⟩
    obtain ⟨qk, hqk⟩ : ∃ q, kpB sm = q := ⟨_, rfl⟩
    rw [hqc] at HK42 HSU
    rw [hqk] at HPX HSU
    clear hqc hqk
    obtain ⟨x0, x1, xf, xz⟩ := HXE.out.v2
    obtain ⟨o0, o1, o2⟩ := (HOE.out.atS HLL.out Sx.enc_len hxn).c3
    have ofz := HOE.out.frozenS HLL.out
    have oz := HOE.out.ltN.2
    obtain ⟨m0, m1⟩ := (HCM.out.below HBE.out hbb1).c2
    have hb1z := Nat.lt_of_lt_of_le hbb1 HBE.out.size
    dsimp only at o0 o1 o2 m0 m1
    have HB4 := Lib.hid (HBE.out.setCell (p := ⟨g, x * 3 + 0, none⟩) (by dsimp only; omega) (.bool qc))
    have HX4 := Lib.hid (HXE.out.other (a := ⟨g, x * 3 + 0, none⟩) (.bool qc) (by dsimp only; omega))
    have HO4 := Lib.hid (HOE.out.setS HLL.out Sx.enc_len hxn 0 (by omega) (.bool qc) ⟨qc, fd, gr⟩ rfl)
    simp only [Nat.add_zero] at HB4 HX4 HO4
    go_wp2_with fail
    refine (HK42.out _).mono ?_
    rintro e5 w5 ⟨rfl, rfl⟩
    obtain ⟨y0, y1, yf, yz⟩ := HX4.out.v2
    obtain ⟨z0, z1, z2⟩ := (HO4.out.atS HLL.out Sx.enc_len hxn).c3
    have zf := HO4.out.frozenS HLL.out
    have zz := HO4.out.ltN.2
    dsimp only at z0 z1 z2
    by_cases hlast : k + 1 < ln
    · have d0 : decide ((k : Int) < (ln : Int) - 1) = true := decide_eq_true (by omega)
      have hkl2 : k + 1 < l.length := by rw [HLN.out]; exact hlast
      have c1 := ((HCB.out (k + 1) hkl2).below HB4.out hbb).c1
      rw [Nat.mul_one] at c1
      rw [if_pos hlast, getD_at l (k + 1) hkl2] at HSU
      generalize l[k + 1] = z at *
      have hz1 : (k : Int) + 1 < ln := by omega
      clear hkl2
      have HLA := Lib.hid hlast
      clear hlast
      have HB5 := Lib.hid (HB4.out.setCell (p := ⟨g, x * 3 + 1, none⟩) (by dsimp only; omega) (.int .i64 z))
      have HX5 := Lib.hid (HX4.out.other (a := ⟨g, x * 3 + 1, none⟩) (.int .i64 z) (by dsimp only; omega))
      have HO5 := Lib.hid (HO4.out.setS HLL.out Sx.enc_len hxn 1 (by omega) (.int .i64 z) ⟨qc, z, gr⟩ rfl)
      obtain ⟨y5, y6, y7, y8⟩ := HX5.out.v2
      go_wp2_with fail
      refine (HPX.out _ HB5.out).mono ?_
      rintro e6 w6 ⟨rfl, hb⟩
      have HB6 := Lib.hid (HB5.out.trans (hb.mono HB5.out.size))
      have HX6 := Lib.hid (HX5.out.later hb)
      have HO6 := Lib.hid (HO5.out.later hb)
      clear hb x0 x1 xf xz o0 o1 o2 ofz oz m0 m1 hb1z y0 y1 yf yz z0 z1 z2 zf zz y5 y6 y7 y8
      obtain ⟨x0, x1, xf, xz⟩ := HX6.out.v2
      obtain ⟨o0, o1, o2⟩ := (HO6.out.atS HLL.out Sx.enc_len hxn).c3
      have ofz := HO6.out.frozenS HLL.out
      have oz := HO6.out.ltN.2
      dsimp only at o0 o1 o2
      cases qk with
      | false =>
        go_wp2_with fail
        go_roundw
        case rel => exact ⟨k + 1, by omega, by go_num, HB6.out, HX6.out, by rw [HSU.out]; exact HO6.out⟩
        case measure => simp [intOf]; omega
      | true =>
      have HB7 := Lib.hid (HB6.out.setCell (p := ⟨g, x * 3 + 2, none⟩) (by dsimp only; omega) (.string gn))
      have HX7 := Lib.hid (HX6.out.other (a := ⟨g, x * 3 + 2, none⟩) (.string gn) (by dsimp only; omega))
      have HO7 := Lib.hid (HO6.out.setS HLL.out Sx.enc_len hxn 2 (by omega) (.string gn) ⟨qc, z, gn⟩ rfl)
      go_wp2_with fail
      go_roundw
      case rel => exact ⟨k + 1, by omega, by go_num, HB7.out, HX7.out, by rw [HSU.out]; exact HO7.out⟩
      case measure => simp [intOf]; omega
    · have d0 : decide ((k : Int) < (ln : Int) - 1) = false := decide_eq_false (by omega)
      rw [if_neg hlast] at HSU
      have HLA := Lib.hid hlast
      clear hlast
      have HB5 := HB4
      have HX5 := HX4
      have HO5 := HO4
      obtain ⟨y5, y6, y7, y8⟩ := HX5.out.v2
      go_wp2_with fail
      refine (HPX.out _ HB5.out).mono ?_
      rintro e6 w6 ⟨rfl, hb⟩
      have HB6 := Lib.hid (HB5.out.trans (hb.mono HB5.out.size))
      have HX6 := Lib.hid (HX5.out.later hb)
      have HO6 := Lib.hid (HO5.out.later hb)
      clear hb x0 x1 xf xz o0 o1 o2 ofz oz m0 m1 hb1z y0 y1 yf yz z0 z1 z2 zf zz y5 y6 y7 y8
      obtain ⟨x0, x1, xf, xz⟩ := HX6.out.v2
      obtain ⟨o0, o1, o2⟩ := (HO6.out.atS HLL.out Sx.enc_len hxn).c3
      have ofz := HO6.out.frozenS HLL.out
      have oz := HO6.out.ltN.2
      dsimp only at o0 o1 o2
      cases qk with
      | false =>
        go_wp2_with fail
        go_roundw
        case rel => exact ⟨k + 1, by omega, by go_num, HB6.out, HX6.out, by rw [HSU.out]; exact HO6.out⟩
        case measure => simp [intOf]; omega
      | true =>
      have HB7 := Lib.hid (HB6.out.setCell (p := ⟨g, x * 3 + 2, none⟩) (by dsimp only; omega) (.string gn))
      have HX7 := Lib.hid (HX6.out.other (a := ⟨g, x * 3 + 2, none⟩) (.string gn) (by dsimp only; omega))
      have HO7 := Lib.hid (HO6.out.setS HLL.out Sx.enc_len hxn 2 (by omega) (.string gn) ⟨qc, fd, gn⟩ rfl)
      go_wp2_with fail
      go_roundw
      case rel => exact ⟨k + 1, by omega, by go_num, HB7.out, HX7.out, by rw [HSU.out]; exact HO7.out⟩
      case measure => simp [intOf]; omega
end Go.Proofs.YtahpdkkpnkhnhaaGreatDoor
