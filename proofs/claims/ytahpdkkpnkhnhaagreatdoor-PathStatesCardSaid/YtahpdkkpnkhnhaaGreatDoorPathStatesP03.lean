/- Lemmas on the way to the law PathStates (part 3): Kc Kd Ke Kh Lb Ma Mb -/
import Derived.Test.YtahpdkkpnkhnhaaGreatDoorPathStatesP02
import Derived.Test.YtahpdkkpnkhnhaaGreatDoorLib29
set_option linter.unusedVariables false
set_option linter.unusedSimpArgs false

/- Walks: CheckState of the reference. -/
namespace Go.Proofs.YtahpdkkpnkhnhaaGreatDoor
open Go Go.Proofs Go.RowKit Go.Shelf
set_option maxRecDepth 100000 in
set_option maxHeartbeats 1000000 in
theorem checkState27 (w : World) (v1 v2 u : Value) (p : Pl) (st : List Sx) (hv : PlR w w.heap.size v1 v2 p) (hu : Sl Sx.enc 3 w w.heap.size u st) (hs : SzR st) : Calls Tryz.prog 27 #[.agg #[v1, v2], u] w (Ret (.int .i64 (ckState p st)) w) := by
  have HP := Lib.hid (fun (w1 : World) (hb : Below w.heap.size w w1) => ckPlant19 w1 _ _ p (hv.later hb))
  have HST := Lib.hid (fun (w1 : World) (hb : Below w.heap.size w w1) => fun m s hm hs hok => status97 w1 _ _ p m s (hv.later hb) hm hs hok)
  have HVL := Lib.hid (fun (w1 : World) (hb : Below w.heap.size w w1) => fun hln hfd => isValid98 w1 _ _ u p st (hv.later hb) (hu.later hb) hln hfd)
  obtain ⟨a1, n1, a2, n2, rfl, rfl⟩ := hv.agg
  obtain ⟨a, c, rfl, hlen, hA⟩ := hu
  have HA := Lib.hid hA
  have HSZ := Lib.hid hs
  clear hA hs hv
  obtain ⟨hl, hlc⟩ := hlen
  obtain ⟨R, hR⟩ : ∃ R, ckState p st = R := ⟨_, rfl⟩
  rw [hR]
  unfold ckState at hR
  have HR := Lib.hid hR
  clear hR
  have HB := Lib.hid ((Below.refl w.heap.size w).alloc (Nat.le_refl _) (.cells #[.slice a1 p.ms.length n1, .slice a2 p.arcs.length n2] 25))
  have HX := Lib.hid (Box.new w #[.slice a1 p.ms.length n1, .slice a2 p.arcs.length n2] 25)
  have HOKP := Lib.hid (fun h : ckPlant p = 0 => ckPlant_ok h)
  obtain ⟨n, hn⟩ : ∃ n, p.ms.length = n := ⟨_, rfl⟩
  obtain ⟨m, hm⟩ : ∃ m, p.arcs.length = m := ⟨_, rfl⟩
  obtain ⟨ln, hln⟩ : ∃ m, st.length = m := ⟨_, rfl⟩
  rw [hln] at hl hlc HVL ⊢
  rw [hn] at HB HX HP HST HVL ⊢
  rw [hm] at HB HX HP HST HVL ⊢
  have HN := Lib.hid hn
  have HLN := Lib.hid hln
  clear hn hm hln
  obtain ⟨cp, hcp⟩ : ∃ c, ckPlant p = c := ⟨_, rfl⟩
  rw [hcp] at HP HR HOKP
  clear hcp
  go_enter Tryz.func27, Tryz.ntmps27
  go_wp2_with fail
  refine (HP.out _ HB.out).mono ?_
  rintro e w2 ⟨rfl, hb2⟩
  have HB2 := Lib.hid (HB.out.trans (hb2.mono HB.out.size))
  have HX2 := Lib.hid (HX.out.later hb2)
  obtain ⟨x0, x1, xf, xz⟩ := HX2.out.v2
  clear hb2
  by_cases hc0 : cp = 0
  rotate_left
  · have k0 : (cp != 0) = true := by simpa using hc0
    rw [if_pos hc0] at HR
    clear hc0
    go_wp2_with fail
    go_ret
    exact ⟨by rw [← HR.out]; rfl, HB2.out⟩
  subst hc0
  rw [if_neg (by simp)] at HR
  have HOP := Lib.hid (HOKP.out rfl)
  clear HOKP
  by_cases hnl : ln = n
  rotate_left
  · have k1 : ((ln : Int) != (n : Int)) = true := by simp; omega
    rw [if_pos (by rw [HLN.out, HN.out]; exact hnl)] at HR
    clear hnl
    go_wp2_with fail
    go_ret
    exact ⟨by rw [← HR.out]; rfl, HB2.out⟩
  subst hnl
  rw [if_neg (by rw [HLN.out, HN.out]; simp)] at HR
  obtain ⟨S, hS⟩ : ∃ S, ckStL p 0 st = S := ⟨_, rfl⟩
  have HS0 := Lib.hid (show ckStL p 0 (st.drop 0) = S from hS)
  have HFD := Lib.hid (fun (h : S = 0) => feeds_in HOP.out (hS.trans h))
  rw [HN.out] at HFD
  rw [hS] at HR
  clear hS
  go_wp2_with fail
  go_loopw [5, 6] (fun e5 j wr => ∃ k : Nat, k ≤ ln ∧ j = .int .i64 k ∧ (∃ x, e5 = .int .i64 x) ∧ Below w.heap.size w wr ∧ Box wr w.heap.size 25 [.slice a1 ln n1, .slice a2 m n2] ∧ ckStL p k (st.drop k) = S) (fun _ j _ => ln - (intOf j).toNat)
  case atStart => exact ⟨0, by omega, rfl, ⟨_, rfl⟩, HB2.out, HX2.out, HS0.out⟩
  case round =>
    clear HB HX HB2 HX2 x0 x1 xf xz HS0
    obtain ⟨k, hk, rfl, ⟨x5, rfl⟩, hbe, hx, hrel⟩ := hrel
    have HL := Lib.hid hrel
    have HBE := Lib.hid hbe
    have HXE := Lib.hid hx
    clear hrel hbe hx
    by_cases hlt : k < ln
    rotate_left
    · obtain rfl : ln = k := by omega
      have HS1 := Lib.hid (show S = 0 by rw [← HL.out, ← HLN.out, List.drop_length]; rfl)
      rw [HS1.out, if_neg (by simp)] at HR
      have HV2 := Lib.hid (fun (w1 : World) (hb : Below w.heap.size w w1) => HVL.out w1 hb (by first | rfl | trivial) (HFD.out HS1.out))
      obtain ⟨q, hq⟩ : ∃ q, validB p st = q := ⟨_, rfl⟩
      rw [hq] at HR HV2
      clear hq HVL
      obtain ⟨x0, x1, xf, xz⟩ := HXE.out.v2
      go_wp2_with fail
      refine (HV2.out _ HBE.out).mono ?_
      rintro e w3 ⟨rfl, hb3⟩
      cases q
      all_goals
        go_wp2_with fail
        go_ret
        exact ⟨by rw [← HR.out]; rfl, HBE.out.trans (hb3.mono HBE.out.size)⟩
    have hkl : k < st.length := by rw [HLN.out]; exact hlt
    obtain ⟨b, off, rfl, hbb, hcells⟩ := HA.out (by omega)
    have HCK := Lib.hid (hcells k hkl)
    have hd := Lib.hid (ckStL_drop p st k hkl)
    have hsz := HSZ.out st[k] (List.getElem_mem hkl)
    have HSZK := Lib.hid hsz
    clear hsz hcells
    generalize st[k] = sk at *
    clear hkl
    have HCALL := Lib.hid (fun (w1 : World) (hb : Below w.heap.size w w1) => HST.out w1 hb k sk hlt HSZK.out HOP.out)
    obtain ⟨runs, feeds, grain⟩ := sk
    obtain ⟨E, hE⟩ : ∃ E, stE p k ⟨runs, feeds, grain⟩ = E := ⟨_, rfl⟩
    rw [hE] at HCALL hd
    clear hE HSZK
    obtain ⟨c0, c1, c2⟩ := (HCK.out.below HBE.out hbb).c3
    dsimp only at c0 c1 c2 HCALL
    have hbz : b < wr.heap.size := Nat.lt_of_lt_of_le hbb HBE.out.size
    obtain ⟨x0, x1, xf, xz⟩ := HXE.out.v2
    have HK := Lib.hid (fun (X : Later wr) => HCALL.out _ (HBE.out.trans (X.h.mono HBE.out.size)))
    go_wp2_with fail
    refine wp_region_later (by kernel_rfl) (by kernel_rfl) ?_
    repeat go_big_quiet_step ((go_at_call 97; exact Calls.later (HK.out _)))
    refine wpQuiet_nil ?_
    rintro w3 ⟨⟨_, hb3⟩, rfl⟩
    have HB4 := Lib.hid (HBE.out.trans (hb3.mono HBE.out.size))
    have HX3 := HXE
    by_cases hE0 : E = 0
    · subst hE0
      have HV := Lib.hid (show ckStL p (k + 1) (st.drop (k + 1)) = S by rw [← HL.out, hd.out, if_neg (by simp)])
      go_wp2_with fail
      go_roundw
      case rel => exact ⟨k + 1, by omega, by go_num, ⟨_, rfl⟩, HB4.out, HX3.out.later hb3, HV.out⟩
      case measure => simp [intOf]; omega
    · have k0 : (E != 0) = true := by simpa using hE0
      have HV := Lib.hid (show R = E by
        have h : S = E := by rw [← HL.out, hd.out, if_pos hE0]
        rw [← HR.out, h, if_pos hE0])
      clear hE0
      go_wp2_with fail
      go_ret
      exact ⟨by rw [HV.out]; rfl, HB4.out⟩
end Go.Proofs.YtahpdkkpnkhnhaaGreatDoor

/- Walks: whether two states are the same, in the reference. -/
namespace Go.Proofs.YtahpdkkpnkhnhaaGreatDoor
open Go Go.Proofs Go.RowKit Go.Shelf
set_option maxRecDepth 100000 in
set_option maxHeartbeats 1000000 in
@[go_sem] theorem eq100 (r1 r2 : Bool) (f1 f2 : Int) (g1 g2 : ByteArray) (w : World) : (Op.equalIn 10000 100 (.agg #[.bool r1, .int .i64 f1, .string g1]) (.agg #[.bool r2, .int .i64 f2, .string g2])).run Tryz.prog w = .ok (r1 == r2 && (f1 == f2 && g1.toList == g2.toList)) w := by
  have u3 := Tryz.underlying3
  have u4 := Tryz.underlying4
  have u9 := Tryz.underlying9
  have a3 := Tryz.isAgg3
  have a4 := Tryz.isAgg4
  have a9 := Tryz.isAgg9
  have z3 := Tryz.sizeOf3
  have z4 := Tryz.sizeOf4
  have z9 := Tryz.sizeOf9
  rw [show (10000 : Nat) = 9999 + 1 from rfl, Op.equalIn]
  simp only [Sem.run_bind, run_underlying Tryz.underlying100, Result.andThen_ok]
  go_simp
  by_cases h1 : r1 = r2 <;> by_cases h2 : f1 = f2 <;> by_cases h3 : g1.toList = g2.toList <;> simp [h1, h2, h3]
def eqX (a b : Sx) : Bool := a.runs == b.runs && (a.feeds == b.feeds && a.grain.toList == b.grain.toList)
def sameB : List Sx → List Sx → Bool
  | [], [] => true
  | a :: r, b :: s => eqX a b && sameB r s
  | _, _ => false
theorem sameB_refl : ∀ l : List Sx, sameB l l = true
  | [] => rfl
  | a :: r => by simp [sameB, eqX, sameB_refl r]
theorem sameB_len : ∀ {a b : List Sx}, sameB a b = true → a.length = b.length
  | [], [], _ => rfl
  | a :: r, b :: s, h => by
    simp only [sameB, Bool.and_eq_true] at h
    simp [sameB_len h.2]
  | [], _ :: _, h => by cases h
  | _ :: _, [], h => by cases h
theorem sameB_drop (a b : List Sx) (k : Nat) (h1 : k < a.length) (h2 : k < b.length) : sameB (a.drop k) (b.drop k) = (eqX a[k] b[k] && sameB (a.drop (k + 1)) (b.drop (k + 1))) := by
  rw [List.drop_eq_getElem_cons h1, List.drop_eq_getElem_cons h2]; rfl
set_option maxRecDepth 100000 in
set_option maxHeartbeats 1000000 in
theorem same69 (v v' : Value) (a b : List Sx) (w : World) (hv : Sl Sx.enc 3 w w.heap.size v a) (hv' : Sl Sx.enc 3 w w.heap.size v' b) : Calls Tryz.prog 69 #[v, v'] w (Ret (.bool (sameB a b)) w) := by
  obtain ⟨ad, c, rfl, hlen, hA⟩ := hv
  obtain ⟨ad', c', rfl, hlen', hA'⟩ := hv'
  have HA := Lib.hid hA
  clear hA
  have HA' := Lib.hid hA'
  clear hA'
  obtain ⟨R, hR⟩ : ∃ R, sameB a b = R := ⟨_, rfl⟩
  rw [hR]
  have HR0 := Lib.hid hR
  clear hR
  go_enter Tryz.func69, Tryz.ntmps69
  by_cases hl : a.length = b.length
  rotate_left
  · have HV := Lib.hid (show R = false by
      rw [← HR0.out]
      cases h : sameB a b with
      | false => rfl
      | true => exact absurd (sameB_len h) hl)
    have hl3 : ((a.length : Int) != (b.length : Int)) = true := by simp; omega
    clear hl
    go_wp2_with fail
    go_ret
    exact ⟨by rw [HV.out]; rfl, Below.refl _ _⟩
  have hl1 : a.length ≤ b.length := by omega
  have hl2 : b.length ≤ a.length := by omega
  have hl3 : ((a.length : Int) != (b.length : Int)) = false := by simp [hl]
  clear hl
  go_wp2_with fail
  go_loopw [5] (fun i wr => ∃ k : Nat, k ≤ a.length ∧ i = .int .i64 k ∧ Below w.heap.size w wr ∧ sameB (a.drop k) (b.drop k) = R) (fun i _ => a.length - (intOf i).toNat)
  case atStart => exact ⟨0, by omega, rfl, Below.refl _ _, HR0.out⟩
  case round =>
    obtain ⟨k, hk, rfl, hbe, hrel⟩ := hrel
    have HR := Lib.hid hrel
    have HBE := Lib.hid hbe
    clear hrel
    clear HR0
    by_cases hlt : k < a.length
    · obtain ⟨bb, off, rfl, hbb, hcells⟩ := HA.out (by omega)
      obtain ⟨bb', off', rfl, hbb', hcells'⟩ := HA'.out (by omega)
      have hd := Lib.hid (sameB_drop a b k hlt (by omega))
      obtain ⟨c0, c1, c2⟩ := ((hcells k hlt).below hbe hbb).c3
      obtain ⟨e0, e1, e2⟩ := ((hcells' k (by omega)).below hbe hbb').c3
      clear hcells HA hcells' HA'
      have hkb : k < b.length := by omega
      have hz := hbe.size
      have hz1 : bb < wr.heap.size := by omega
      have hz2 : bb' < wr.heap.size := by omega
      generalize a[k] = x at *
      generalize b[k] = y at *
      obtain ⟨r1, f1, g1⟩ := x
      obtain ⟨r2, f2, g2⟩ := y
      dsimp only at c0 c1 c2 e0 e1 e2
      have hx : eqX ⟨r1, f1, g1⟩ ⟨r2, f2, g2⟩ = (r1 == r2 && (f1 == f2 && g1.toList == g2.toList)) := rfl
      rw [hx] at hd
      obtain ⟨q1, h1⟩ : ∃ q, (r1 == r2) = q := ⟨_, rfl⟩
      obtain ⟨q2, h2⟩ : ∃ q, (f1 == f2) = q := ⟨_, rfl⟩
      obtain ⟨q3, h3⟩ : ∃ q, (g1.toList == g2.toList) = q := ⟨_, rfl⟩
      rw [h1, h2, h3] at hd
      clear hbe hx
      cases q1 with
      | false =>
        have HV := Lib.hid (show R = false by rw [← HR.out, hd.out]; rfl)
        go_wp2_with fail
        refine wp_region_later (by kernel_rfl) (by kernel_rfl) ?_
        repeat go_big_quiet_step (fail)
        refine wpQuiet_nil ?_
        rintro w2 ⟨⟨_, hb2⟩, rfl⟩
        go_wp2_with fail
        go_ret
        exact ⟨by rw [HV.out]; rfl, HBE.out.trans (hb2.mono HBE.out.size)⟩
      | true =>
      cases q2 with
      | false =>
        have HV := Lib.hid (show R = false by rw [← HR.out, hd.out]; rfl)
        go_wp2_with fail
        refine wp_region_later (by kernel_rfl) (by kernel_rfl) ?_
        repeat go_big_quiet_step (fail)
        refine wpQuiet_nil ?_
        rintro w2 ⟨⟨_, hb2⟩, rfl⟩
        go_wp2_with fail
        go_ret
        exact ⟨by rw [HV.out]; rfl, HBE.out.trans (hb2.mono HBE.out.size)⟩
      | true =>
      cases q3 with
      | false =>
        have HV := Lib.hid (show R = false by rw [← HR.out, hd.out]; rfl)
        go_wp2_with fail
        refine wp_region_later (by kernel_rfl) (by kernel_rfl) ?_
        repeat go_big_quiet_step (fail)
        refine wpQuiet_nil ?_
        rintro w2 ⟨⟨_, hb2⟩, rfl⟩
        go_wp2_with fail
        go_ret
        exact ⟨by rw [HV.out]; rfl, HBE.out.trans (hb2.mono HBE.out.size)⟩
      | true =>
        have HV := Lib.hid (show sameB (a.drop (k + 1)) (b.drop (k + 1)) = R by rw [← HR.out, hd.out]; rfl)
        go_wp2_with fail
        refine wp_region_later (by kernel_rfl) (by kernel_rfl) ?_
        repeat go_big_quiet_step (fail)
        refine wpQuiet_nil ?_
        rintro w2 ⟨⟨_, hb2⟩, rfl⟩
        go_wp2_with fail
        go_roundw
        case rel => exact ⟨k + 1, by omega, by go_num, HBE.out.trans (hb2.mono HBE.out.size), HV.out⟩
        case measure => simp [intOf]; omega
    · obtain rfl : a.length = k := by omega
      have HV := Lib.hid (show R = true by rw [← HR.out, List.drop_length, List.drop_of_length_le (by omega)]; rfl)
      clear hbe
      go_wp2_with fail
      go_ret
      exact ⟨by rw [HV.out]; rfl, HBE.out⟩
end Go.Proofs.YtahpdkkpnkhnhaaGreatDoor

/- Walks: small helpers of the laws on states; whether a machine is fed. -/
namespace Go.Proofs.YtahpdkkpnkhnhaaGreatDoor
open Go Go.Proofs Go.RowKit Go.Shelf
/-- A slice of whatever length reads as a list. -/
def SlL {α : Type} (f : α → List Value) (sz : Nat) (w : World) (B : Nat) (v : Value) (l : List α) : Prop :=
  ∃ a c, v = .slice a l.length c ∧ (l.length ≤ 9223372036854775807 ∧ l.length ≤ c) ∧ (0 < l.length → ∃ b off, a = some ⟨b, off, none⟩ ∧ b < B ∧
    ∀ i (h : i < l.length), At w b (off + i * sz) (f l[i]))
theorem SlL.later {α : Type} {f : α → List Value} {sz : Nat} {w w' : World} {v : Value} {l : List α} (h : SlL f sz w w.heap.size v l) (hb : Below w.heap.size w w') : SlL f sz w' w'.heap.size v l := by
  obtain ⟨a, c, h1, h2, h3⟩ := h
  refine ⟨a, c, h1, h2, fun h0 => ?_⟩
  obtain ⟨b, off, h4, h5, h6⟩ := h3 h0
  exact ⟨b, off, h4, Nat.lt_of_lt_of_le h5 hb.size, fun i hi => (h6 i hi).below hb h5⟩
theorem SlL.short {α : Type} {f : α → List Value} {sz : Nat} {w : World} {B : Nat} {v : Value} {l : List α} (h : SlL f sz w B v l) (hl : l.length ≤ 1000000000) : Sl f sz w B v l := by
  obtain ⟨a, c, h1, h2, h3⟩ := h
  exact ⟨a, c, h1, ⟨hl, h2.2⟩, h3⟩
/-- Is a state too long for the laws? -/
def longB (st : List Sx) : Bool := st.any (fun s => decide (40 < s.grain.size)) || decide (80 < st.length)
theorem longB_no {st : List Sx} (h : longB st = false) : st.length ≤ 80 ∧ ∀ s ∈ st, s.grain.size ≤ 40 := by
  unfold longB at h
  simp only [Bool.or_eq_false_iff, List.any_eq_false, decide_eq_true_eq, decide_eq_false_iff_not, Nat.not_lt] at h
  exact ⟨h.2, h.1⟩
set_option maxRecDepth 100000 in
set_option maxHeartbeats 1000000 in
theorem long25 (v : Value) (st : List Sx) (w : World) (hv : SlL Sx.enc 3 w w.heap.size v st) (hs : SzR st) : Calls Tryz.prog 25 #[v] w (Ret (.bool (longB st)) w) := by
  obtain ⟨ad, c, rfl, hlen, hA⟩ := hv
  have HA := Lib.hid hA
  have HS := Lib.hid hs
  clear hA hs
  obtain ⟨hl1, hl2⟩ := hlen
  obtain ⟨R, hR⟩ : ∃ R, longB st = R := ⟨_, rfl⟩
  rw [hR]
  unfold longB at hR
  obtain ⟨g, hg⟩ : ∃ g, decide (80 < st.length) = g := ⟨_, rfl⟩
  rw [hg] at hR
  have HR0 := Lib.hid hR
  have HG := Lib.hid hg
  clear hR hg
  go_enter Tryz.func25, Tryz.ntmps25
  go_wp2_with fail
  go_loopw [3] (fun i wr => ∃ k : Nat, k ≤ st.length ∧ i = .int .i64 k ∧ Below w.heap.size w wr ∧ ((st.drop k).any (fun s => decide (40 < s.grain.size)) || g) = R) (fun i _ => st.length - (intOf i).toNat)
  case atStart => exact ⟨0, by omega, rfl, Below.refl _ _, HR0.out⟩
  case round =>
    obtain ⟨k, hk, rfl, hbe, hrel⟩ := hrel
    have HR := Lib.hid hrel
    have HBE := Lib.hid hbe
    clear hrel HR0
    by_cases hlt : k < st.length
    · obtain ⟨bb, off, rfl, hbb, hcells⟩ := HA.out (by omega)
      have HD := Lib.hid (show (decide (40 < st[k].grain.size) || ((st.drop (k + 1)).any (fun s => decide (40 < s.grain.size)) || g)) = R by
        have h := HR.out
        rw [List.drop_eq_getElem_cons hlt, List.any_cons, Bool.or_assoc] at h
        exact h)
      obtain ⟨c0, c1, c2⟩ := ((hcells k hlt).below hbe hbb).c3
      have hsk := HS.out _ (List.getElem_mem hlt)
      clear hcells HA
      have hz := hbe.size
      have hz1 : bb < wr.heap.size := by omega
      generalize st[k] = x at *
      obtain ⟨r1, f1, g1⟩ := x
      dsimp only at c0 c1 c2 HD hsk
      clear hbe
      by_cases h4 : 40 < g1.size
      · have d1 : decide ((40 : Int) < (g1.size : Int)) = true := decide_eq_true (by omega)
        have HV := Lib.hid (show R = true by rw [← HD.out, decide_eq_true h4]; rfl)
        clear h4
        go_wp2_with fail
        go_ret
        exact ⟨by rw [HV.out]; rfl, HBE.out⟩
      · have d1 : decide ((40 : Int) < (g1.size : Int)) = false := decide_eq_false (by omega)
        have HV := Lib.hid (show ((st.drop (k + 1)).any (fun s => decide (40 < s.grain.size)) || g) = R by rw [← HD.out, decide_eq_false h4]; rfl)
        clear h4
        go_wp2_with fail
        go_roundw
        case rel => exact ⟨k + 1, by omega, by go_num, HBE.out, HV.out⟩
        case measure => simp [intOf]; omega
    · obtain rfl : st.length = k := by omega
      have HV := Lib.hid (show R = g by rw [← HR.out, List.drop_length]; rfl)
      have hg2 : decide ((80 : Int) < (st.length : Int)) = g := by
        rw [← HG.out, decide_eq_decide]
        omega
      clear hbe
      go_wp2_with fail
      go_ret
      exact ⟨by rw [HV.out]; rfl, HBE.out⟩
set_option maxRecDepth 100000 in
set_option maxHeartbeats 1000000 in
theorem states30_bad (a : Option Addr) (c : Nat) (e : Int) (v : Value) (w : World) (he : e ≠ 0) : Calls Tryz.prog 30 #[.slice a 0 c, .int .i64 e, .int .i64 e, v] w (Ret (.bool true) w) := by
  have k0 : (e != 0) = true := by simpa using he
  clear he
  go_enter Tryz.func30, Tryz.ntmps30
  go_wp2_with fail
  go_ret
  exact ⟨rfl, Below.refl _ _⟩
set_option maxRecDepth 100000 in
set_option maxHeartbeats 1000000 in
theorem states30_good (v v' : Value) (l : List Sx) (w : World) (hv : Sl Sx.enc 3 w w.heap.size v l) (hv' : Sl Sx.enc 3 w w.heap.size v' l) : Calls Tryz.prog 30 #[v, .int .i64 0, .int .i64 0, v'] w (Ret (.bool true) w) := by
  have H69 := Lib.hid (same69 v v' l l w hv hv')
  rw [sameB_refl] at H69
  clear hv hv'
  go_enter Tryz.func30, Tryz.ntmps30
  go_wp2_with fail
  refine H69.out.mono ?_
  rintro e w2 ⟨rfl, hb2⟩
  have HB2 := Lib.hid hb2
  clear hb2
  go_wp2_with fail
  go_ret
  exact ⟨rfl, HB2.out⟩
end Go.Proofs.YtahpdkkpnkhnhaaGreatDoor

/- Walks: the law PathStarts. -/
namespace Go.Proofs.YtahpdkkpnkhnhaaGreatDoor
open Go Go.Proofs Go.RowKit Go.Shelf
theorem own_nil {w : World} {B : Nat} {v : Value} (h : Own Sx.enc 3 100 w B v []) : ∃ a c, v = .slice a 0 c := by
  obtain ⟨a, c, e⟩ := h.shape
  exact ⟨a, c, e⟩
/-- What StE gives at an error. -/
theorem StE.bad {w : World} {E : Int} {L : List Sx} {e : Ending} {w' : World} (h : StE w E L e w') (hE : E ≠ 0) : ∃ a c, e = .returned (.tuple #[.slice a 0 c, .int .i64 E]) ∧ Below w.heap.size w w' := by
  obtain ⟨v, rfl, ho, hb⟩ := h
  rw [if_pos hE] at ho
  obtain ⟨a, c, rfl⟩ := own_nil ho
  exact ⟨a, c, rfl, hb⟩
theorem StE.good {w : World} {L : List Sx} {e : Ending} {w' : World} (h : StE w 0 L e w') (hl : L.length ≤ 1000000000) : ∃ v, e = .returned (.tuple #[v, .int .i64 0]) ∧ Sl Sx.enc 3 w' w'.heap.size v L ∧ Below w.heap.size w w' := by
  obtain ⟨v, rfl, ho, hb⟩ := h
  rw [if_neg (by simp)] at ho
  exact ⟨v, rfl, ho.toSl Sx.enc_len hl, hb⟩
theorem StatePost.good {w : World} {L : List Sx} {e : Ending} {w' : World} (h : StatePost w L e w') (hl : L.length ≤ 1000000000) : ∃ v, e = .returned v ∧ Sl Sx.enc 3 w' w'.heap.size v L ∧ Below w.heap.size w w' := by
  obtain ⟨v, rfl, ho, hb⟩ := h
  exact ⟨v, rfl, ho.toSl Sx.enc_len hl, hb⟩
end Go.Proofs.YtahpdkkpnkhnhaaGreatDoor

/- Walks: Stop and Resume of the reference. -/
namespace Go.Proofs.YtahpdkkpnkhnhaaGreatDoor
open Go Go.Proofs Go.RowKit Go.Shelf
theorem getD_set (L : List Sx) (i x : Nat) (v : Sx) : (L.set i v).getD x s0 = if i = x ∧ i < L.length then v else L.getD x s0 := by
  rw [List.getD_eq_getElem?_getD, List.getElem?_set, List.getD_eq_getElem?_getD]
  by_cases h : i = x
  · subst h
    by_cases h2 : i < L.length
    · simp [h2]
    · simp [h2]
  · simp [h]
end Go.Proofs.YtahpdkkpnkhnhaaGreatDoor

/- Walks: Empty of the reference. -/
namespace Go.Proofs.YtahpdkkpnkhnhaaGreatDoor
open Go Go.Proofs Go.RowKit Go.Shelf
set_option maxRecDepth 100000 in
set_option maxHeartbeats 1000000 in
theorem empty37 (w : World) (v1 v2 : Value) (p : Pl) (hv : PlR w w.heap.size v1 v2 p) (hsm : p.ms.length ≤ 1000000) : Calls Tryz.prog 37 #[.agg #[v1, v2]] w (StatePost w (emptyS p.ms.length)) := by
  obtain ⟨a1, n1, a2, n2, rfl, rfl⟩ := hv.agg
  clear hv
  have HB := Lib.hid ((Below.refl w.heap.size w).alloc (Nat.le_refl _) (.cells #[.slice a1 p.ms.length n1, .slice a2 p.arcs.length n2] 25))
  have HX := Lib.hid (Box.new w #[.slice a1 p.ms.length n1, .slice a2 p.arcs.length n2] 25)
  obtain ⟨n, hn⟩ : ∃ n, p.ms.length = n := ⟨_, rfl⟩
  obtain ⟨m, hm⟩ : ∃ m, p.arcs.length = m := ⟨_, rfl⟩
  rw [hn] at HB HX hsm ⊢
  rw [hm] at HB HX ⊢
  clear hn hm
  obtain ⟨Q, hQ⟩ : ∃ Q, StatePost w (emptyS n) = Q := ⟨_, rfl⟩
  rw [hQ]
  have HQ : Hid (∀ (v : Value) (w' : World), Own Sx.enc 3 100 w' w.heap.size v (emptyS n) → Below w.heap.size w w' → Q (.returned v) w') := Lib.hid (fun v w' h1 h2 => by rw [← hQ]; exact ⟨v, rfl, h1, h2⟩)
  clear hQ
  have HT : Hid (Tryz.prog.underlying 39 = some (.slice 100)) := Lib.hid Tryz.underlying39
  have HI := Lib.hid infoSx
  go_enter Tryz.func37, Tryz.ntmps37
  go_wp2_with fail
  obtain ⟨W1, hW1⟩ : ∃ W, w.alloc (.cells #[.slice a1 n n1, .slice a2 m n2] 25) = W := ⟨_, rfl⟩
  rw [hW1] at HB HX ⊢
  clear hW1
  go_loopw [3, 4] (fun v i wr => ∃ k : Nat, k ≤ n ∧ i = .int .i64 k ∧ Own Sx.enc 3 100 wr W1.heap.size v (emptyS k) ∧ Below W1.heap.size W1 wr) (fun _ i _ => n - (intOf i).toNat)
  case atStart => exact ⟨0, by omega, rfl, Own.nil _ _ _ _ _, Below.refl _ _⟩
  case round =>
    obtain ⟨k, hk, rfl, hown, hbe⟩ := hrel
    have HOV := Lib.hid hown
    have HBE := Lib.hid hbe
    have HXE := Lib.hid (HX.out.later hbe)
    clear hown hbe
    obtain ⟨x0, x1, xf, xz⟩ := HXE.out.v2
    by_cases hlt : k < n
    rotate_left
    · obtain rfl : n = k := by omega
      go_wp2_with fail
      exact HQ.out _ _ (HOV.out.lower HB.out.size) (HB.out.trans (HBE.out.mono HB.out.size))
    have HLK : Hid ((emptyS k).length ≤ 1000000) := Lib.hid (by unfold emptyS; rw [List.length_replicate]; omega)
    have HES := Lib.hid (show emptyS (k + 1) = emptyS k ++ [⟨false, -1, ⟨#[]⟩⟩] by unfold emptyS; rw [List.replicate_succ'])
    go_wp2_with (at_builtin; refine wpList_push Sx.enc 3 32 39 100 _ HT.out HI.out rfl (by decide) (by decide) Sx.enc_len Sx.enc_one _ (⟨false, -1, ⟨#[]⟩⟩ : Sx) W1.heap.size wr _ rfl _ HOV.out HBE.out.size HLK.out rfl _ _ rfl rfl rfl ?_; intro v' w' hown' hg'; obtain ⟨a', cap', rfl⟩ := hown'.shape; rw [List.length_append, List.length_singleton] at hown'; have HOW := Lib.hid hown'; have HGR := Lib.hid (grown_below HBE.out hg' HBE.out.size (HOV.out.lt') (Nat.le_refl _)); clear hown' hg')
    go_roundw
    case rel => exact ⟨k + 1, by omega, by go_num, by rw [HES.out]; exact HOW.out, HGR.out⟩
    case measure => simp [intOf]; omega
end Go.Proofs.YtahpdkkpnkhnhaaGreatDoor

/- Walks: Upstream of the reference. -/
namespace Go.Proofs.YtahpdkkpnkhnhaaGreatDoor
open Go Go.Proofs Go.RowKit Go.Shelf
/-- No machine ahead of k feeds a marked one without being marked. -/
def Clo (st : List Sx) (O : List Bool) (k : Nat) : Prop := ∀ i (h : i < st.length), i < k → ¬ mkd O i → ∀ j : Nat, st[i].feeds = (j : Int) → ¬ mkd O j
theorem clo_up {st : List Sx} {O : List Bool} {x : Nat} (h : Clo st O st.length) (hx : mkd O x) {i : Nat} (hu : UpR st x i) : mkd O i := by
  induction hu with
  | base hi hne hf => exact Classical.byContradiction fun hh => h _ hi hi hh x hf hx
  | step hi hne hf _ ih => exact Classical.byContradiction fun hh => h _ hi hi hh _ hf ih
open Classical in
/-- How many marks are not set, read off the memory. -/
noncomputable def cntW (g n : Nat) (w : World) : Nat := (List.range n).countP (fun i => decide (w.cell? ⟨g, i, none⟩ = some (.bool false)))
open Classical in
theorem cntW_eq {g n : Nat} {w : World} {O : List Bool} (hl : O.length = n) (h : ∀ i (hi : i < O.length), w.cell? ⟨g, i, none⟩ = some (.bool O[i])) : cntW g n w = O.count false := by
  unfold cntW
  have e : O = (List.range n).map (fun i => O.getD i true) := by
    apply List.ext_getElem
    · simp [hl]
    · intro i h1 h2
      simp [List.getElem?_eq_getElem h1]
  have e2 : O.count false = ((List.range n).map (fun i => O.getD i true)).count false := congrArg _ e
  rw [e2, List.count_eq_countP, List.countP_map]
  apply List.countP_congr
  intro i hi
  rw [List.mem_range] at hi
  have h1 := h i (by omega)
  simp only [decide_eq_true_eq, Function.comp, beq_iff_eq, List.getD_eq_getElem?_getD, List.getElem?_eq_getElem (show i < O.length by omega), Option.getD_some]
  rw [h1]
  constructor
  · intro hh; injection hh with hh; injection hh
  · intro hh; rw [hh]
theorem Own.cntW {O : List Bool} {w : World} {B g n cap : Nat} (h : Own encB 1 4 w B (.slice (some ⟨g, 0, none⟩) n cap) O) (hl : O.length = n) : YtahpdkkpnkhnhaaGreatDoor.cntW g n w = O.count false :=
  cntW_eq hl fun i hi => by
    have := (h.atN hl encB_len i hi).c1
    rw [Nat.mul_one] at this
    exact this
def b2n : Value → Nat
  | .bool true => 1
  | _ => 0
theorem up_ne {st : List Sx} {mc : Int} {i : Nat} (h : UpR st mc i) : (i : Int) ≠ mc := by
  cases h with
  | base _ hne _ => exact hne
  | step _ hne _ _ => exact hne
open Classical in
theorem upB_ok {st : List Sx} {O : List Bool} {x k : Nat} {b : Bool} (h1 : ∀ i, mkd O i → i = x ∨ UpR st x i) (h2 : Clo st O st.length) (hx : mkd O x) (hk : O[k]? = some b) : upB st x k = (b && !((k : Int) == (x : Int))) := by
  unfold upB
  cases hb : (b && !((k : Int) == (x : Int))) with
  | true =>
    simp only [Bool.and_eq_true, Bool.not_eq_true', beq_eq_false_iff_ne] at hb
    obtain ⟨rfl, hne⟩ := hb
    rcases h1 k hk with rfl | h
    · exact absurd rfl hne
    · exact decide_eq_true h
  | false =>
    refine decide_eq_false (fun hu => ?_)
    have h3 := clo_up h2 hx hu
    unfold mkd at h3
    rw [hk] at h3
    cases h3
    have := up_ne hu
    simp at hb
    omega
def UlPost (w : World) (l : List Int) (e : Ending) (w' : World) : Prop := ∃ v, e = .returned v ∧ Own encI 1 3 w' w.heap.size v l ∧ Below w.heap.size w w'
set_option maxRecDepth 100000 in
set_option maxHeartbeats 1000000 in
theorem upstream41 (w : World) (u : Value) (st : List Sx) (x : Nat) (hu : Sl Sx.enc 3 w w.heap.size u st) (h1000 : st.length ≤ 1000000) (hx : x < st.length) (hfd : ∀ s ∈ st, s.feeds < 0 ∨ inN st.length s.feeds = true) : Calls Tryz.prog 41 #[u, .int .i64 x] w (UlPost w (upL st x st.length)) := by
  obtain ⟨a3, n3, rfl, hl3, hA3⟩ := hu
  obtain ⟨b3, off3, rfl, hbb3, hcells3⟩ := hA3 (by omega)
  have HC3 := Lib.hid hcells3
  have HFD := Lib.hid hfd
  clear hA3 hcells3 hfd
  obtain ⟨n, hn⟩ : ∃ n, st.length = n := ⟨_, rfl⟩
  rw [hn] at hl3 h1000 hx HFD ⊢
  obtain ⟨h31, h32⟩ := hl3
  obtain ⟨Q, hQ⟩ : ∃ Q, UlPost w (upL st x n) = Q := ⟨_, rfl⟩
  rw [hQ]
  have HQ := Lib.hid hQ
  have HN := Lib.hid hn
  clear hQ hn
  have HT : Hid (Tryz.prog.underlying 135 = some (.slice 4)) := Lib.hid Tryz.underlying135
  have HI := Lib.hid infoB
  go_enter Tryz.func41, Tryz.ntmps41
  go_wp2_with (at_make; refine wpList_mk1 encB false (.bool false) rfl 135 4 1 HT.out HI.out (by rfl) (by omega) w.heap.size _ n (by omega) (Nat.le_refl _) rfl _ _ rfl .i64 .i64 rfl rfl ?_; intro w3 hown hgr; have HO3 := Lib.hid hown; have HB3 := Lib.hid (grown_none_below hgr); have hg0 := hown.ltN.2; have ofz := hown.frozenN (by simp); have o0 := (hown.atN (by simp) encB_len x (by simp; omega)).c1; rw [Nat.mul_one, List.getElem_replicate] at o0; clear hown hgr)
  have hos := HO3.out.setN (by simp) encB_len x (by simp; omega) 0 (by omega) (.bool true) true (by rfl)
  simp only [Nat.mul_one, Nat.add_zero] at hos
  have HOS := Lib.hid hos
  have HB4 := Lib.hid (HB3.out.setCell (p := ⟨w.heap.size, x, none⟩) (Nat.le_refl _) (.bool true))
  clear hos o0 ofz hg0
  obtain ⟨W4, hW4⟩ : ∃ W, w3.setCell ⟨w.heap.size, x, none⟩ (.bool true) = W := ⟨_, rfl⟩
  rw [hW4] at HOS HB4 ⊢
  clear hW4 HO3 HB3
  obtain ⟨g, hgw⟩ : ∃ g, w.heap.size = g := ⟨_, rfl⟩
  have HGW := Lib.hid hgw
  rw [hgw] at HOS ⊢
  clear hgw
  go_loopw [6, 7] (fun m i wr => ∃ O q, m = .bool q ∧ O.length = n ∧ Own encB 1 4 wr g (.slice (some ⟨g, 0, none⟩) n n) O ∧ Below w.heap.size w wr ∧ mkd O x ∧ (∀ i, mkd O i → i = x ∨ UpR st x i) ∧ (q = false → Clo st O n)) (fun m _ wr => 2 * cntW g n wr + b2n m)
  case atStart =>
    refine ⟨_, true, rfl, by simp, HOS.out, HB4.out, (mkd_set (by simp; omega) x).2 (.inl rfl), fun i hi => ?_, fun h => by cases h⟩
    rcases (mkd_set (by simp; omega) i).1 hi with h | h
    · exact .inl h
    · unfold mkd at h
      rw [List.getElem?_replicate] at h
      split at h <;> cases h
  case round =>
    clear HOS HB4
    obtain ⟨O, q, rfl, hol, ho, hbe, hox, hos, hcl⟩ := hrel
    have HOL := Lib.hid hol
    have HO := Lib.hid ho
    have HBE := Lib.hid hbe
    have HOX := Lib.hid hox
    have HOS := Lib.hid hos
    have HCL := Lib.hid hcl
    clear hol ho hbe hox hos hcl
    cases q with
    | false =>
      have HCN := Lib.hid (HCL.out rfl)
      clear HCL
      have HT2 : Hid (Tryz.prog.underlying 26 = some (.slice 3)) := Lib.hid Tryz.underlying26
      have HI2 := Lib.hid infoI
      generalize wr = W5 at *
      go_wp2_with fail
      go_loopw [8, 9] (fun v i wr => ∃ k : Nat, k ≤ n ∧ i = .int .i64 k ∧ Own encI 1 3 wr W5.heap.size v (upL st x k) ∧ Below W5.heap.size W5 wr) (fun _ i _ => n - (intOf i).toNat)
      case atStart => exact ⟨0, by omega, rfl, Own.nil _ _ _ _ _, Below.refl _ _⟩
      case round =>
        obtain ⟨k, hk, rfl, hown, hbe2⟩ := hrel
        have HOV := Lib.hid hown
        have HBF := Lib.hid hbe2
        clear hown hbe2
        by_cases hlt : k < n
        rotate_left
        · obtain rfl : n = k := by omega
          go_wp2_with fail
          rw [← HQ.out]
          exact ⟨_, rfl, HOV.out.lower HBE.out.size, HBE.out.trans (HBF.out.mono HBE.out.size)⟩
        have hkO : k < O.length := by rw [HOL.out]; exact hlt
        have hat := HO.out.atN HOL.out encB_len k hkO
        obtain ⟨ok, hok⟩ : ∃ b, O[k] = b := ⟨_, rfl⟩
        rw [hok] at hat
        have hgz := HO.out.ltN.2
        have o0 := (hat.below HBF.out hgz).c1
        rw [Nat.mul_one] at o0
        have hgz2 : g < wr.heap.size := Nat.lt_of_lt_of_le hgz HBF.out.size
        have HUB := Lib.hid (upB_ok HOS.out (by rw [HN.out]; exact HCN.out) HOX.out (show O[k]? = some ok by rw [List.getElem?_eq_getElem hkO, hok]))
        have HUS := Lib.hid (upL_succ st x k)
        rw [HUB.out] at HUS
        have HUL := Lib.hid (upL_len st x k)
        clear hat hok hkO
        cases ok with
        | false =>
          go_wp2_with fail
          go_roundw
          case rel => exact ⟨k + 1, by omega, by go_num, by rw [HUS.out, if_neg (by simp)]; exact HOV.out, HBF.out⟩
          case measure => simp [intOf]; omega
        | true =>
          cases hkx : ((k : Int) == (x : Int)) with
          | true =>
            rw [hkx] at HUS
            have hkx2 : ((k : Int) != (x : Int)) = false := by rw [bne, hkx]; rfl
            go_wp2_with fail
            go_roundw
            case rel => exact ⟨k + 1, by omega, by go_num, by rw [HUS.out, if_neg (by simp)]; exact HOV.out, HBF.out⟩
            case measure => simp [intOf]; omega
          | false =>
            rw [hkx] at HUS
            have hkx2 : ((k : Int) != (x : Int)) = true := by rw [bne, hkx]; rfl
            have HLK : Hid ((upL st x k).length ≤ 1000000) := Lib.hid (by have := HUL.out; omega)
            go_wp2_with (at_builtin; refine wpList_push encI 1 8 26 3 _ HT2.out HI2.out rfl (by decide) (by decide) encI_len encI_one _ (k : Int) W5.heap.size wr _ rfl _ HOV.out HBF.out.size HLK.out rfl _ _ rfl rfl rfl ?_; intro v' w' hown' hg'; obtain ⟨a', cap', rfl⟩ := hown'.shape; rw [List.length_append, List.length_singleton] at hown'; have HOW := Lib.hid hown'; have HGR := Lib.hid (grown_below HBF.out hg' HBF.out.size (HOV.out.lt') (Nat.le_refl _)); clear hown' hg')
            go_roundw
            case rel => exact ⟨k + 1, by omega, by go_num, by rw [HUS.out, if_pos (by rfl)]; exact HOW.out, HGR.out⟩
            case measure => simp [intOf]; omega
    | true =>
      clear HCL
      have HM := Lib.hid (Own.cntW HO.out HOL.out)
      go_wp2_with fail
      go_loopw [6, 7] (fun m i wr' => ∃ (k : Nat) (O' : List Bool) (q : Bool), k ≤ n ∧ i = .int .i64 k ∧ m = .bool q ∧ O'.length = n ∧ Own encB 1 4 wr' g (.slice (some ⟨g, 0, none⟩) n n) O' ∧ Below w.heap.size w wr' ∧ mkd O' x ∧ (∀ i, mkd O' i → i = x ∨ UpR st x i) ∧ (q = false → Clo st O' k) ∧ O'.count false + (if q then 1 else 0) ≤ O.count false) (fun _ i _ => n - (intOf i).toNat)
      case atStart => exact ⟨0, O, false, by omega, rfl, rfl, HOL.out, HO.out, HBE.out, HOX.out, HOS.out, fun _ i _ hi => absurd hi (Nat.not_lt_zero _), by simp⟩
      case round =>
        clear HOL HO HBE HOX HOS
        obtain ⟨k, O', q, hk, rfl, rfl, hol, ho, hbe, hox, hos, hcl, hct⟩ := hrel
        have HOL := Lib.hid hol
        have HO := Lib.hid ho
        have HBE := Lib.hid hbe
        have HOX := Lib.hid hox
        have HOS := Lib.hid hos
        have HCL := Lib.hid hcl
        have HCT := Lib.hid hct
        clear hol ho hbe hox hos hcl hct
        by_cases hlt : k < n
        rotate_left
        · obtain rfl : n = k := by omega
          go_wp2_with fail
          go_roundw
          case rel => exact ⟨O', q, rfl, HOL.out, HO.out, HBE.out, HOX.out, HOS.out, HCL.out⟩
          case measure =>
            rw [Own.cntW HO.out HOL.out, HM.out]
            have := HCT.out
            cases q <;> simp [b2n] at this ⊢ <;> omega
        have hks : k < st.length := by rw [HN.out]; exact hlt
        have hkO : k < O'.length := by rw [HOL.out]; exact hlt
        have o0 := (HO.out.atN HOL.out encB_len k hkO).c1
        rw [Nat.mul_one] at o0
        have oz := HO.out.ltN.2
        have ofz := HO.out.frozenN HOL.out
        obtain ⟨d0, d1, d2⟩ := ((HC3.out k hks).below HBE.out hbb3).c3
        have hbz := Nat.lt_of_lt_of_le hbb3 HBE.out.size
        have HFK := Lib.hid (HFD.out st[k] (List.getElem_mem hks))
        have HSF := Lib.hid (show st[k].feeds = st[k].feeds from rfl)
        obtain ⟨ok, hok⟩ : ∃ b, O'[k] = b := ⟨_, rfl⟩
        have HOK := Lib.hid (show O'[k]? = some ok by rw [List.getElem?_eq_getElem hkO, hok])
        rw [hok] at o0
        have HKS := Lib.hid hks
        have HKO := Lib.hid hkO
        clear hok HSF hkO
        generalize hsk : st[k] = sk at d0 d1 d2 HFK
        have HSK := Lib.hid hsk
        clear hsk hks
        obtain ⟨rn, fd, gr⟩ := sk
        dsimp only at d0 d1 d2 HFK
        cases ok with
        | true =>
          have HCN := Lib.hid (show q = false → Clo st O' (k + 1) from fun hq i h hi hn j hj => by
            rcases Nat.lt_succ_iff_lt_or_eq.1 hi with h1 | h1
            · exact HCL.out hq i h h1 hn j hj
            · subst h1; exact absurd HOK.out hn)
          go_wp2_with fail
          go_roundw
          case rel => exact ⟨k + 1, O', q, by omega, by go_num, rfl, HOL.out, HO.out, HBE.out, HOX.out, HOS.out, HCN.out, HCT.out⟩
          case measure => simp [intOf]; omega
        | false =>
        by_cases hf0 : 0 ≤ fd
        rotate_left
        · have e0 : decide (0 ≤ fd) = false := decide_eq_false hf0
          have HCN := Lib.hid (show q = false → Clo st O' (k + 1) from fun hq i h hi hn j hj => by
            rcases Nat.lt_succ_iff_lt_or_eq.1 hi with h1 | h1
            · exact HCL.out hq i h h1 hn j hj
            · subst h1
              have hj2 : fd = (j : Int) := (congrArg Sx.feeds HSK.out).symm.trans hj
              omega)
          clear hf0
          go_wp2_with fail
          go_roundw
          case rel => exact ⟨k + 1, O', q, by omega, by go_num, rfl, HOL.out, HO.out, HBE.out, HOX.out, HOS.out, HCN.out, HCT.out⟩
          case measure => simp [intOf]; omega
        have e0 : decide (0 ≤ fd) = true := decide_eq_true hf0
        obtain ⟨y, rfl, hyn⟩ := inN_nat (HFK.out.resolve_left (by omega))
        have hyO : y < O'.length := by rw [HOL.out]; exact hyn
        have p0 := (HO.out.atN HOL.out encB_len y hyO).c1
        rw [Nat.mul_one] at p0
        obtain ⟨oy, hoy⟩ : ∃ b, O'[y] = b := ⟨_, rfl⟩
        have HOY := Lib.hid (show O'[y]? = some oy by rw [List.getElem?_eq_getElem hyO, hoy])
        rw [hoy] at p0
        clear hoy hyO hf0 HFK
        cases oy with
        | false =>
          have HCN := Lib.hid (show q = false → Clo st O' (k + 1) from fun hq i h hi hn j hj => by
            rcases Nat.lt_succ_iff_lt_or_eq.1 hi with h1 | h1
            · exact HCL.out hq i h h1 hn j hj
            · subst h1
              have hj2 : (y : Int) = (j : Int) := (congrArg Sx.feeds HSK.out).symm.trans hj
              obtain rfl : y = j := by omega
              intro hh
              unfold mkd at hh
              rw [HOY.out] at hh
              cases hh)
          go_wp2_with fail
          go_roundw
          case rel => exact ⟨k + 1, O', q, by omega, by go_num, rfl, HOL.out, HO.out, HBE.out, HOX.out, HOS.out, HCN.out, HCT.out⟩
          case measure => simp [intOf]; omega
        | true =>
          have hos2 := HO.out.setN HOL.out encB_len k HKO.out 0 (by omega) (.bool true) true (by rfl)
          simp only [Nat.mul_one, Nat.add_zero] at hos2
          have HO2 := Lib.hid hos2
          have HB2 := Lib.hid (HBE.out.setCell (p := ⟨g, k, none⟩) (by rw [HGW.out]; exact Nat.le_refl _) (.bool true))
          have HX2 := Lib.hid ((mkd_set HKO.out x).2 (.inr HOX.out))
          have HS2 := Lib.hid (show ∀ i, mkd (O'.set k true) i → i = x ∨ UpR st x i from fun i hi => by
            rcases (mkd_set HKO.out i).1 hi with rfl | h
            · have hne : i ≠ x := fun e => by
                subst e
                have := HOX.out
                unfold mkd at this
                rw [HOK.out] at this
                cases this
              right
              rcases HOS.out y HOY.out with rfl | h2
              · exact .base HKS.out (by omega) (congrArg Sx.feeds HSK.out)
              · exact .step HKS.out (by omega) (congrArg Sx.feeds HSK.out) h2
            · exact HOS.out i h)
          have HC2 := Lib.hid (show (O'.set k true).count false + (if true = true then 1 else 0) ≤ O.count false by
            have h1 := cnt_set O' k HOK.out
            have h2 := HCT.out
            simp only [if_true]
            omega)
          have HL2 := Lib.hid (show (O'.set k true).length = n by rw [List.length_set, HOL.out])
          clear hos2
          go_wp2_with fail
          go_roundw
          case rel => exact ⟨k + 1, _, true, by omega, by go_num, rfl, HL2.out, HO2.out, HB2.out, HX2.out, HS2.out, (fun h => by cases h), HC2.out⟩
          case measure => simp [intOf]; omega
end Go.Proofs.YtahpdkkpnkhnhaaGreatDoor
