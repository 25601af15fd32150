/- Lemmas on the way to the law PathNeverMeets (part 3): Kc Kd Ke Kh La Lb Lc Ld Le -/
import Derived.Test.YtahpdkkpnkhnhaaGreatDoorPathNeverMeetsP02
import Derived.Test.YtahpdkkpnkhnhaaGreatDoorLib29
set_option linter.unusedVariables false
set_option linter.unusedSimpArgs false

/- Walks: CheckState of the reference. -/
namespace Go.Proofs.YtahpdkkpnkhnhaaGreatDoor
open Go Go.Proofs Go.RowKit Go.Shelf
set_option maxRecDepth 100000 in
set_option maxHeartbeats 1000000 in
theorem checkState27 (w : World) (v1 v2 u : Value) (p : Pl) (st : List Sx) (hv : PlR w w.heap.size v1 v2 p) (hu : Sl Sx.enc 3 w w.heap.size u st) (hs : SzR st) : Calls Tryz.prog 27 #[.agg #[v1, v2], u] w (Ret (.int .i64 (ckState p st)) w) := by
  have HP := Lib.hid (fun (w1 : World) (hb : Below w.heap.size w w1) => ckPlant19 w1 _ _ p (hv.later hb))
  have HST := Lib.hid (fun (w1 : World) (hb : Below w.heap.size w w1) => fun m s hm hs hok => status97 w1 _ _ p m s (hv.later hb) hm hs hok)
  have HVL := Lib.hid (fun (w1 : World) (hb : Below w.heap.size w w1) => fun hln hfd => isValid98 w1 _ _ u p st (hv.later hb) (hu.later hb) hln hfd)
  obtain ⟨a1, n1, a2, n2, rfl, rfl⟩ := hv.agg
  obtain ⟨a, c, rfl, hlen, hA⟩ := hu
  have HA := Lib.hid hA
  have HSZ := Lib.hid hs
  clear hA hs hv
  obtain ⟨hl, hlc⟩ := hlen
  obtain ⟨R, hR⟩ : ∃ R, ckState p st = R := ⟨_, rfl⟩
  rw [hR]
  unfold ckState at hR
  have HR := Lib.hid hR
  clear hR
  have HB := Lib.hid ((Below.refl w.heap.size w).alloc (Nat.le_refl _) (.cells #[.slice a1 p.ms.length n1, .slice a2 p.arcs.length n2] 25))
  have HX := Lib.hid (Box.new w #[.slice a1 p.ms.length n1, .slice a2 p.arcs.length n2] 25)
  have HOKP := Lib.hid (fun h : ckPlant p = 0 => ckPlant_ok h)
  obtain ⟨n, hn⟩ : ∃ n, p.ms.length = n := ⟨_, rfl⟩
  obtain ⟨m, hm⟩ : ∃ m, p.arcs.length = m := ⟨_, rfl⟩
  obtain ⟨ln, hln⟩ : ∃ m, st.length = m := ⟨_, rfl⟩
  rw [hln] at hl hlc HVL ⊢
  rw [hn] at HB HX HP HST HVL ⊢
  rw [hm] at HB HX HP HST HVL ⊢
  have HN := Lib.hid hn
  have HLN := Lib.hid hln
  clear hn hm hln
  obtain ⟨cp, hcp⟩ : ∃ c, ckPlant p = c := ⟨_, rfl⟩
  rw [hcp] at HP HR HOKP
  clear hcp
  go_enter Tryz.func27, Tryz.ntmps27
  go_wp2_with fail
  refine (HP.out _ HB.out).mono ?_
  rintro e w2 ⟨rfl, hb2⟩
  have HB2 := Lib.hid (HB.out.trans (hb2.mono HB.out.size))
  have HX2 := Lib.hid (HX.out.later hb2)
  obtain ⟨x0, x1, xf, xz⟩ := HX2.out.v2
  clear hb2
  by_cases hc0 : cp = 0
  rotate_left
  · have k0 : (cp != 0) = true := by simpa using hc0
    rw [if_pos hc0] at HR
    clear hc0
    go_wp2_with fail
    go_ret
    exact ⟨by rw [← HR.out]; rfl, HB2.out⟩
  subst hc0
  rw [if_neg (by simp)] at HR
  have HOP := Lib.hid (HOKP.out rfl)
  clear HOKP
  by_cases hnl : ln = n
  rotate_left
  · have k1 : ((ln : Int) != (n : Int)) = true := by simp; omega
    rw [if_pos (by rw [HLN.out, HN.out]; exact hnl)] at HR
    clear hnl
    go_wp2_with fail
    go_ret
    exact ⟨by rw [← HR.out]; rfl, HB2.out⟩
  subst hnl
  rw [if_neg (by rw [HLN.out, HN.out]; simp)] at HR
  obtain ⟨S, hS⟩ : ∃ S, ckStL p 0 st = S := ⟨_, rfl⟩
  have HS0 := Lib.hid (show ckStL p 0 (st.drop 0) = S from hS)
  have HFD := Lib.hid (fun (h : S = 0) => feeds_in HOP.out (hS.trans h))
  rw [HN.out] at HFD
  rw [hS] at HR
  clear hS
  go_wp2_with fail
  go_loopw [5, 6] (fun e5 j wr => ∃ k : Nat, k ≤ ln ∧ j = .int .i64 k ∧ (∃ x, e5 = .int .i64 x) ∧ Below w.heap.size w wr ∧ Box wr w.heap.size 25 [.slice a1 ln n1, .slice a2 m n2] ∧ ckStL p k (st.drop k) = S) (fun _ j _ => ln - (intOf j).toNat)
  case atStart => exact ⟨0, by omega, rfl, ⟨_, rfl⟩, HB2.out, HX2.out, HS0.out⟩
  case round =>
    clear HB HX HB2 HX2 x0 x1 xf xz HS0
    obtain ⟨k, hk, rfl, ⟨x5, rfl⟩, hbe, hx, hrel⟩ := hrel
    have HL := Lib.hid hrel
    have HBE := Lib.hid hbe
    have HXE := Lib.hid hx
    clear hrel hbe hx
    by_cases hlt : k < ln
    rotate_left
    · obtain rfl : ln = k := by omega
      have HS1 := Lib.hid (show S = 0 by rw [← HL.out, ← HLN.out, List.drop_length]; rfl)
      rw [HS1.out, if_neg (by simp)] at HR
      have HV2 := Lib.hid (fun (w1 : World) (hb : Below w.heap.size w w1) => HVL.out w1 hb (by first | rfl | trivial) (HFD.out HS1.out))
      obtain ⟨q, hq⟩ : ∃ q, validB p st = q := ⟨_, rfl⟩
      rw [hq] at HR HV2
      clear hq HVL
      obtain ⟨x0, x1, xf, xz⟩ := HXE.out.v2
      go_wp2_with fail
      refine (HV2.out _ HBE.out).mono ?_
      rintro e w3 ⟨rfl, hb3⟩
      cases q
      all_goals
        go_wp2_with fail
        go_ret
        exact ⟨by rw [← HR.out]; rfl, HBE.out.trans (hb3.mono HBE.out.size)⟩
    have hkl : k < st.length := by rw [HLN.out]; exact hlt
    obtain ⟨b, off, rfl, hbb, hcells⟩ := HA.out (by omega)
    have HCK := Lib.hid (hcells k hkl)
    have hd := Lib.hid (ckStL_drop p st k hkl)
    have hsz := HSZ.out st[k] (List.getElem_mem hkl)
    have HSZK := Lib.hid hsz
    clear hsz hcells
    generalize st[k] = sk at *
    clear hkl
    have HCALL := Lib.hid (fun (w1 : World) (hb : Below w.heap.size w w1) => HST.out w1 hb k sk hlt HSZK.out HOP.out)
    obtain ⟨runs, feeds, grain⟩ := sk
    obtain ⟨E, hE⟩ : ∃ E, stE p k ⟨runs, feeds, grain⟩ = E := ⟨_, rfl⟩
    rw [hE] at HCALL hd
    clear hE HSZK
    obtain ⟨c0, c1, c2⟩ := (HCK.out.below HBE.out hbb).c3
    dsimp only at c0 c1 c2 HCALL
    have hbz : b < wr.heap.size := Nat.lt_of_lt_of_le hbb HBE.out.size
    obtain ⟨x0, x1, xf, xz⟩ := HXE.out.v2
    have HK := Lib.hid (fun (X : Later wr) => HCALL.out _ (HBE.out.trans (X.h.mono HBE.out.size)))
    go_wp2_with fail
    refine wp_region_later (by kernel_rfl) (by kernel_rfl) ?_
    repeat go_big_quiet_step ((go_at_call 97; exact Calls.later (HK.out _)))
    refine wpQuiet_nil ?_
    rintro w3 ⟨⟨_, hb3⟩, rfl⟩
    have HB4 := Lib.hid (HBE.out.trans (hb3.mono HBE.out.size))
    have HX3 := HXE
    by_cases hE0 : E = 0
    · subst hE0
      have HV := Lib.hid (show ckStL p (k + 1) (st.drop (k + 1)) = S by rw [← HL.out, hd.out, if_neg (by simp)])
      go_wp2_with fail
      go_roundw
      case rel => exact ⟨k + 1, by omega, by go_num, ⟨_, rfl⟩, HB4.out, HX3.out.later hb3, HV.out⟩
      case measure => simp [intOf]; omega
    · have k0 : (E != 0) = true := by simpa using hE0
      have HV := Lib.hid (show R = E by
        have h : S = E := by rw [← HL.out, hd.out, if_pos hE0]
        rw [← HR.out, h, if_pos hE0])
      clear hE0
      go_wp2_with fail
      go_ret
      exact ⟨by rw [HV.out]; rfl, HB4.out⟩
end Go.Proofs.YtahpdkkpnkhnhaaGreatDoor

/- Walks: whether two states are the same, in the reference. -/
namespace Go.Proofs.YtahpdkkpnkhnhaaGreatDoor
open Go Go.Proofs Go.RowKit Go.Shelf
set_option maxRecDepth 100000 in
set_option maxHeartbeats 1000000 in
@[go_sem] theorem eq100 (r1 r2 : Bool) (f1 f2 : Int) (g1 g2 : ByteArray) (w : World) : (Op.equalIn 10000 100 (.agg #[.bool r1, .int .i64 f1, .string g1]) (.agg #[.bool r2, .int .i64 f2, .string g2])).run Tryz.prog w = .ok (r1 == r2 && (f1 == f2 && g1.toList == g2.toList)) w := by
  have u3 := Tryz.underlying3
  have u4 := Tryz.underlying4
  have u9 := Tryz.underlying9
  have a3 := Tryz.isAgg3
  have a4 := Tryz.isAgg4
  have a9 := Tryz.isAgg9
  have z3 := Tryz.sizeOf3
  have z4 := Tryz.sizeOf4
  have z9 := Tryz.sizeOf9
  rw [show (10000 : Nat) = 9999 + 1 from rfl, Op.equalIn]
  simp only [Sem.run_bind, run_underlying Tryz.underlying100, Result.andThen_ok]
  go_simp
  by_cases h1 : r1 = r2 <;> by_cases h2 : f1 = f2 <;> by_cases h3 : g1.toList = g2.toList <;> simp [h1, h2, h3]
def eqX (a b : Sx) : Bool := a.runs == b.runs && (a.feeds == b.feeds && a.grain.toList == b.grain.toList)
def sameB : List Sx → List Sx → Bool
  | [], [] => true
  | a :: r, b :: s => eqX a b && sameB r s
  | _, _ => false
end Go.Proofs.YtahpdkkpnkhnhaaGreatDoor

/- Walks: small helpers of the laws on states; whether a machine is fed. -/
namespace Go.Proofs.YtahpdkkpnkhnhaaGreatDoor
open Go Go.Proofs Go.RowKit Go.Shelf
/-- A slice of whatever length reads as a list. -/
def SlL {α : Type} (f : α → List Value) (sz : Nat) (w : World) (B : Nat) (v : Value) (l : List α) : Prop :=
  ∃ a c, v = .slice a l.length c ∧ (l.length ≤ 9223372036854775807 ∧ l.length ≤ c) ∧ (0 < l.length → ∃ b off, a = some ⟨b, off, none⟩ ∧ b < B ∧
    ∀ i (h : i < l.length), At w b (off + i * sz) (f l[i]))
theorem SlL.later {α : Type} {f : α → List Value} {sz : Nat} {w w' : World} {v : Value} {l : List α} (h : SlL f sz w w.heap.size v l) (hb : Below w.heap.size w w') : SlL f sz w' w'.heap.size v l := by
  obtain ⟨a, c, h1, h2, h3⟩ := h
  refine ⟨a, c, h1, h2, fun h0 => ?_⟩
  obtain ⟨b, off, h4, h5, h6⟩ := h3 h0
  exact ⟨b, off, h4, Nat.lt_of_lt_of_le h5 hb.size, fun i hi => (h6 i hi).below hb h5⟩
end Go.Proofs.YtahpdkkpnkhnhaaGreatDoor

/- Walks: the law PathStarts. -/
namespace Go.Proofs.YtahpdkkpnkhnhaaGreatDoor
open Go Go.Proofs Go.RowKit Go.Shelf
theorem own_nil {w : World} {B : Nat} {v : Value} (h : Own Sx.enc 3 100 w B v []) : ∃ a c, v = .slice a 0 c := by
  obtain ⟨a, c, e⟩ := h.shape
  exact ⟨a, c, e⟩
/-- What StE gives at an error. -/
theorem StE.bad {w : World} {E : Int} {L : List Sx} {e : Ending} {w' : World} (h : StE w E L e w') (hE : E ≠ 0) : ∃ a c, e = .returned (.tuple #[.slice a 0 c, .int .i64 E]) ∧ Below w.heap.size w w' := by
  obtain ⟨v, rfl, ho, hb⟩ := h
  rw [if_pos hE] at ho
  obtain ⟨a, c, rfl⟩ := own_nil ho
  exact ⟨a, c, rfl, hb⟩
theorem StE.good {w : World} {L : List Sx} {e : Ending} {w' : World} (h : StE w 0 L e w') (hl : L.length ≤ 1000000000) : ∃ v, e = .returned (.tuple #[v, .int .i64 0]) ∧ Sl Sx.enc 3 w' w'.heap.size v L ∧ Below w.heap.size w w' := by
  obtain ⟨v, rfl, ho, hb⟩ := h
  rw [if_neg (by simp)] at ho
  exact ⟨v, rfl, ho.toSl Sx.enc_len hl, hb⟩
theorem StatePost.good {w : World} {L : List Sx} {e : Ending} {w' : World} (h : StatePost w L e w') (hl : L.length ≤ 1000000000) : ∃ v, e = .returned v ∧ Sl Sx.enc 3 w' w'.heap.size v L ∧ Below w.heap.size w w' := by
  obtain ⟨v, rfl, ho, hb⟩ := h
  exact ⟨v, rfl, ho.toSl Sx.enc_len hl, hb⟩
end Go.Proofs.YtahpdkkpnkhnhaaGreatDoor

/- Walks: whether a path is set, and whether it runs, in the reference. -/
namespace Go.Proofs.YtahpdkkpnkhnhaaGreatDoor
open Go Go.Proofs Go.RowKit Go.Shelf
set_option maxRecDepth 100000 in
set_option maxHeartbeats 1000000 in
theorem isSet47 (w : World) (u x : Value) (st : List Sx) (l : List Int) (hu : Sl Sx.enc 3 w w.heap.size u st) (hx : Sl encI 1 w w.heap.size x l) (hin : ∀ y ∈ l, inN st.length y = true) : Calls Tryz.prog 47 #[u, x] w (Ret (.bool (setB st l)) w) := by
  obtain ⟨a1, n1, rfl, hl1, hA1⟩ := hu
  obtain ⟨a, c, rfl, hlen, hA⟩ := hx
  have HA1 := Lib.hid hA1
  have HA := Lib.hid hA
  have HIN := Lib.hid hin
  clear hA1 hA hin
  obtain ⟨h11, h12⟩ := hl1
  obtain ⟨hl, hlc⟩ := hlen
  obtain ⟨R, hR⟩ : ∃ R, setB st l = R := ⟨_, rfl⟩
  rw [hR]
  have HR := Lib.hid hR
  have HRT := Lib.hid (fun (h : ∀ k, k < l.length → setK st l k = true) => show R = true by rw [← hR]; exact (setB_iff st l).2 h)
  clear hR
  obtain ⟨n, hn⟩ : ∃ n, st.length = n := ⟨_, rfl⟩
  obtain ⟨ln, hln⟩ : ∃ m, l.length = m := ⟨_, rfl⟩
  rw [hn] at h11 h12 HIN ⊢
  rw [hln] at hl hlc ⊢
  have HN := Lib.hid hn
  have HLN := Lib.hid hln
  clear hn hln
  go_enter Tryz.func47, Tryz.ntmps47
  go_wp2_with fail
  go_loopw [5] (fun i wr => ∃ j : Nat, (j ≤ ln ∨ j = 1) ∧ 1 ≤ j ∧ i = .int .i64 j ∧ Below w.heap.size w wr ∧ ∀ i, i < j → i < ln → setK st l i = true) (fun i _ => ln - (intOf i).toNat)
  case atStart => exact ⟨1, .inr rfl, by omega, rfl, Below.refl _ _, fun i hi _ => by rw [show i = 0 by omega]; rfl⟩
  case round =>
    obtain ⟨k, hk, hk1, rfl, hbe, hok⟩ := hrel
    have HOK := Lib.hid hok
    have HBE := Lib.hid hbe
    clear hok hbe
    obtain ⟨j, rfl⟩ : ∃ j, k = j + 1 := ⟨k - 1, by omega⟩
    clear hk1
    by_cases hlt : j + 1 < ln
    rotate_left
    · have d0 : decide ((j : Int) + 1 < (ln : Int)) = false := decide_eq_false (by omega)
      have d1 : decide (j + 1 < ln) = false := decide_eq_false (by omega)
      have HV := Lib.hid (HRT.out (fun k hk => HOK.out k (by rw [HLN.out] at hk; omega) (by rw [HLN.out] at hk; exact hk)))
      clear hk
      go_wp2_with fail
      go_ret
      exact ⟨by rw [HV.out]; rfl, HBE.out⟩
    have d0 : decide ((j : Int) + 1 < (ln : Int)) = true := decide_eq_true (by omega)
    have d1 : decide (j + 1 < ln) = true := decide_eq_true (by omega)
    have hkl : j + 1 < l.length := by rw [HLN.out]; exact hlt
    have hjl : j < l.length := by omega
    obtain ⟨b, off, rfl, hbb, hcells⟩ := HA.out (by omega)
    have c0 := ((hcells (j + 1) hkl).below HBE.out hbb).c1
    have c1 := ((hcells j hjl).below HBE.out hbb).c1
    rw [Nat.mul_one] at c0 c1
    obtain ⟨y, hy, hyn⟩ := inN_nat (HIN.out l[j] (List.getElem_mem hjl))
    have hyl : y < st.length := by rw [HN.out]; exact hyn
    obtain ⟨b1, off1, rfl, hbb1, hcells1⟩ := HA1.out (by omega)
    obtain ⟨e0, e1, e2⟩ := ((hcells1 y hyl).below HBE.out hbb1).c3
    rw [hy] at c1
    have HLJ := Lib.hid (show l.getD j 0 = (y : Int) by rw [getD_at l j hjl, hy])
    have HLK := Lib.hid (getD_at l (j + 1) hkl)
    have HST := Lib.hid (stGet hyl)
    have HNO := Lib.hid (fun (h : setK st l (j + 1) = false) => setB_no HR.out hkl h)
    have hbz : b < wr.heap.size := Nat.lt_of_lt_of_le hbb HBE.out.size
    have hb1z : b1 < wr.heap.size := Nat.lt_of_lt_of_le hbb1 HBE.out.size
    have HK := Lib.hid (show setK st l (j + 1) = (st[y].feeds == l[j + 1]) by unfold setK; rw [HLK.out, show j + 1 - 1 = j by omega, HLJ.out, Int.toNat_natCast, HST.out, decide_eq_false (show ¬ j + 1 = 0 by omega), Bool.false_or])
    clear hcells hcells1 hy HLJ HLK HST
    generalize st[y] = sy at *
    generalize l[j + 1] = z at *
    clear hyl hkl hjl
    obtain ⟨runs, feeds, grain⟩ := sy
    dsimp only at e0 e1 e2 HK
    obtain ⟨q, hq⟩ : ∃ q, (feeds == z) = q := ⟨_, rfl⟩
    have hq2 : (feeds != z) = !q := by rw [bne, hq]
    rw [hq] at HK
    clear hk
    cases q with
    | true =>
      go_wp2_with fail
      go_quiet (fail)
      go_wp2_with fail
      go_roundw
      case rel => exact ⟨j + 1 + 1, .inl (by omega), by omega, by go_num, below_drewN HBE.out _, fun i hi hi2 => (Nat.lt_succ_iff_lt_or_eq.1 hi).elim (fun h => HOK.out i h hi2) (fun h => by rw [h]; exact HK.out)⟩
      case measure => simp [intOf]; omega
    | false =>
      have HV := Lib.hid (HNO.out HK.out)
      go_wp2_with fail
      go_quiet (fail)
      go_wp2_with fail
      go_ret
      exact ⟨by rw [HV.out]; rfl, below_drewN HBE.out _⟩
/-- Whether all conveyors of a path run. -/
def runK (p : Pl) (st : List Sx) (m : Int) : Bool := !(cvB (kdA p m) && !(st.getD m.toNat s0).runs)
def runsB (p : Pl) (st : List Sx) (l : List Int) : Bool := l.all (runK p st)
end Go.Proofs.YtahpdkkpnkhnhaaGreatDoor

/- Walks: Stop and Resume of the reference. -/
namespace Go.Proofs.YtahpdkkpnkhnhaaGreatDoor
open Go Go.Proofs Go.RowKit Go.Shelf
theorem getD_set (L : List Sx) (i x : Nat) (v : Sx) : (L.set i v).getD x s0 = if i = x ∧ i < L.length then v else L.getD x s0 := by
  rw [List.getD_eq_getElem?_getD, List.getElem?_set, List.getD_eq_getElem?_getD]
  by_cases h : i = x
  · subst h
    by_cases h2 : i < L.length
    · simp [h2]
    · simp [h2]
  · simp [h]
end Go.Proofs.YtahpdkkpnkhnhaaGreatDoor

/- Walks: Resume of the reference. -/
namespace Go.Proofs.YtahpdkkpnkhnhaaGreatDoor
open Go Go.Proofs Go.RowKit Go.Shelf
/-- The status of a machine of a path that runs again. -/
def resumeV (p : Pl) (l : List Int) (k : Nat) (s : Sx) : Sx := ⟨cvB (kdA p (l.getD k 0)), s.feeds, s.grain⟩
def resumeTo (p : Pl) (l : List Int) (st : List Sx) : Nat → List Sx
  | 0 => st
  | k + 1 => (resumeTo p l st k).set (l.getD k 0).toNat (resumeV p l k ((resumeTo p l st k).getD (l.getD k 0).toNat s0))
theorem resumeTo_len (p : Pl) (l : List Int) (st : List Sx) (k : Nat) : (resumeTo p l st k).length = st.length := by
  induction k with
  | zero => rfl
  | succ k ih => rw [resumeTo, List.length_set, ih]
theorem resumeTo_succ (p : Pl) (l : List Int) (st : List Sx) (k x : Nat) (hk : l.getD k 0 = (x : Int)) : resumeTo p l st (k + 1) = (resumeTo p l st k).set x (resumeV p l k ((resumeTo p l st k).getD x s0)) := by
  rw [resumeTo, hk, Int.toNat_natCast]
end Go.Proofs.YtahpdkkpnkhnhaaGreatDoor

/- Walks: Resume. -/
namespace Go.Proofs.YtahpdkkpnkhnhaaGreatDoor
open Go Go.Proofs Go.RowKit Go.Shelf
set_option maxRecDepth 100000 in
set_option maxHeartbeats 1000000 in
theorem resume46 (w : World) (v1 v2 u y : Value) (p : Pl) (st : List Sx) (l : List Int) (hw : WdR w) (hv : PlR w w.heap.size v1 v2 p) (hu : Sl Sx.enc 3 w w.heap.size u st) (hs : SzR st) (hx : Sl encI 1 w w.heap.size y l) : Calls Tryz.prog 46 #[.agg #[v1, v2], u, y] w (StE w (stopE p st l) (resumeTo p l st l.length)) := by
  have HP := Lib.hid (fun (w1 : World) (hb : Below w.heap.size w w1) => checkSet90 w1 _ _ u y p st l (hw.later hb) (hv.later hb) (hu.later hb) hs (hx.later hb))
  have HI := Lib.hid (fun (w1 : World) (hb : Below w.heap.size w w1) => isSet109 w1 u y st l (hu.later hb) (hx.later hb))
  have HCV := Lib.hid (fun s t (w1 : World) (hb : Below w.heap.size w w1) => conveys84 s t w1 (hw.later hb))
  have HCL := Lib.hid (fun (w1 : World) (hb : Below w.heap.size w w1) => clone95 w1 u st (hu.later hb))
  obtain ⟨⟨a1, n1, rfl, hl1, hA1⟩, ⟨a2, n2, rfl, hl2, hA2⟩⟩ := hv
  obtain ⟨a, c, rfl, hlen, hA⟩ := hx
  have HA1 := Lib.hid hA1
  have HA := Lib.hid hA
  clear hA1 hA2 hA hl2 hw hu hs
  obtain ⟨h11, h12⟩ := hl1
  obtain ⟨hl, hlc⟩ := hlen
  have HB := Lib.hid ((Below.refl w.heap.size w).alloc (Nat.le_refl _) (.cells #[.slice a1 p.ms.length n1, .slice a2 p.arcs.length n2] 25))
  have HX := Lib.hid (Box.new w #[.slice a1 p.ms.length n1, .slice a2 p.arcs.length n2] 25)
  have HOK := Lib.hid (fun h : setE p st l = 0 => setE_ok h)
  unfold setE at HOK
  obtain ⟨E, hE⟩ : ∃ E, stopE p st l = E := ⟨_, rfl⟩
  rw [hE]
  unfold stopE setE at hE
  have HE := Lib.hid hE
  clear hE
  obtain ⟨cp, hcp⟩ : ∃ c, (if ckState p st ≠ 0 then ckState p st else pathE p l) = c := ⟨_, rfl⟩
  rw [hcp] at HP HE HOK
  clear hcp
  obtain ⟨n, hn⟩ : ∃ n, p.ms.length = n := ⟨_, rfl⟩
  obtain ⟨m, hm⟩ : ∃ m, p.arcs.length = m := ⟨_, rfl⟩
  obtain ⟨ln, hll⟩ : ∃ m, l.length = m := ⟨_, rfl⟩
  rw [hn] at HB HX HP h11 h12 ⊢
  rw [hm] at HB HX HP ⊢
  rw [hll] at hl hlc HP HI ⊢
  have HN := Lib.hid hn
  have HLN := Lib.hid hll
  clear hn hm hll
  obtain ⟨Q, hQ⟩ : ∃ Q, StE w E (resumeTo p l st ln) = Q := ⟨_, rfl⟩
  rw [hQ]
  have HQ := Lib.hid hQ
  clear hQ
  go_enter Tryz.func46, Tryz.ntmps46
  go_wp2_with fail
  refine (HP.out _ HB.out).mono ?_
  rintro e w2 ⟨rfl, hb2⟩
  have HB2 := Lib.hid (HB.out.trans (hb2.mono HB.out.size))
  have HX2 := Lib.hid (HX.out.later hb2)
  obtain ⟨x0, x1, xf, xz⟩ := HX2.out.v2
  clear hb2
  by_cases hc0 : cp = 0
  rotate_left
  · have k0 : (cp != 0) = true := by simpa using hc0
    rw [if_pos hc0] at HE
    have HC0 := Lib.hid hc0
    clear hc0
    go_wp2_with fail
    rw [← HQ.out, ← HE.out]
    exact StE.no HC0.out HB2.out
  subst hc0
  rw [if_neg (by simp)] at HE
  have HO := Lib.hid (HOK.out rfl)
  have HI2 := Lib.hid (fun (w1 : World) (hb : Below w.heap.size w w1) => HI.out w1 hb (by rw [HO.out.len]; exact HO.out.ins))
  have HIN := Lib.hid HO.out.ins
  have hln := HO.out.len
  rw [HN.out] at HIN hln
  have HST := Lib.hid (fun k => (resumeTo_len p l st k).trans hln)
  have hpos := HO.out.ok.pos
  rw [HN.out] at hpos
  clear HI HOK HO
  obtain ⟨q, hq⟩ : ∃ q, setB st l = q := ⟨_, rfl⟩
  rw [hq] at HI2 HE
  clear hq
  go_wp2_with fail
  refine (HI2.out _ HB2.out).mono ?_
  rintro e w3 ⟨rfl, hb3⟩
  have HB3 := Lib.hid (HB2.out.trans (hb3.mono HB2.out.size))
  clear x0 x1 xf xz
  have HX3 := Lib.hid (HX2.out.later hb3)
  obtain ⟨x0, x1, xf, xz⟩ := HX3.out.v2
  clear hb3
  cases q with
  | false =>
    go_wp2_with fail
    rw [← HQ.out, ← HE.out]
    exact StE.no (by decide) HB3.out
  | true =>
    have HE0 := Lib.hid (show E = 0 from HE.out.symm)
    clear HE
    go_wp2_with fail
    refine (HCL.out _ HB3.out).mono ?_
    rintro e w4 ⟨v, rfl, hown, hb4⟩
    have HB4 := Lib.hid (HB3.out.trans (hb4.mono HB3.out.size))
    have HX4 := Lib.hid (HX3.out.later hb4)
    obtain ⟨g, cap, hvv, hg1, hg2⟩ := hown.form (by rw [hln]; omega)
    rw [hln] at hvv
    subst hvv
    have HO4 := Lib.hid (hown.lower (show w.heap.size + 1 ≤ _ by have := HX3.out.lt; omega))
    have hgw : w.heap.size < g := by have := HX3.out.lt; omega
    clear hb4 hown hg1 hg2 hln x0 x1 xf xz
    go_wp2_with fail
    go_loopw [27] (fun j wr => ∃ k : Nat, k ≤ ln ∧ j = .int .i64 k ∧ Below w.heap.size w wr ∧ Box wr w.heap.size 25 [.slice a1 n n1, .slice a2 m n2] ∧ Own Sx.enc 3 100 wr (w.heap.size + 1) (.slice (some ⟨g, 0, none⟩) n cap) (resumeTo p l st k)) (fun j _ => ln - (intOf j).toNat)
    case atStart => exact ⟨0, by omega, rfl, HB4.out, HX4.out, HO4.out⟩
    case round =>
      clear HB4 HX4 HO4
      obtain ⟨k, hk, rfl, hbe, hx, hown⟩ := hrel
      have HBE := Lib.hid hbe
      have HXE := Lib.hid hx
      have HOE := Lib.hid hown
      clear hbe hx hown
      by_cases hlt : k < ln
      rotate_left
      · obtain rfl : ln = k := by omega
        go_wp2_with fail
        rw [← HQ.out, HE0.out]
        exact StE.yes (HOE.out.lower (show w.heap.size ≤ w.heap.size + 1 by omega)) HBE.out
      have hkl : k < l.length := by rw [HLN.out]; exact hlt
      obtain ⟨b, off, rfl, hbb, hcells⟩ := HA.out (by omega)
      have c0 := ((hcells k hkl).below HBE.out hbb).c1
      rw [Nat.mul_one] at c0
      have hbz : b < wr.heap.size := Nat.lt_of_lt_of_le hbb HBE.out.size
      obtain ⟨x, hy, hxn⟩ := inN_nat (HIN.out l[k] (List.getElem_mem hkl))
      rw [hy] at c0
      have HLK := Lib.hid (show l.getD k 0 = (x : Int) by rw [getD_at l k hkl, hy])
      have hxl : x < p.ms.length := by rw [HN.out]; exact hxn
      obtain ⟨b1, off1, rfl, hbb1, hcells1⟩ := HA1.out (by omega)
      have HCM := Lib.hid (hcells1 x hxl)
      have HKD := Lib.hid (kdA_nat hxl)
      have HSU := Lib.hid (resumeTo_succ p l st k x HLK.out)
      have HLL := Lib.hid (HST.out k)
      have HSE := Lib.hid (set_self (resumeTo p l st k) x (by rw [HLL.out]; exact hxn))
      clear hcells hcells1 hy hkl
      generalize resumeTo p l st k = L at *
      rw [← HSE.out] at HOE
      unfold resumeV at HSU
      rw [HLK.out, HKD.out] at HSU
      generalize p.ms[x] = mx at *
      generalize L.getD x s0 = sx at *
      clear hxl HSE HKD HLK
      obtain ⟨sm, tm⟩ := mx
      obtain ⟨rn, fd, gr⟩ := sx
      dsimp only at HSU
      have HK84 := Lib.hid (HCV.out sm tm)
      obtain ⟨qc, hqc⟩ : ∃ q, cvB sm = q := ⟨_, rfl⟩
      rw [hqc] at HK84 HSU
      clear hqc
      obtain ⟨x0, x1, xf, xz⟩ := HXE.out.v2
      obtain ⟨o0, o1, o2⟩ := (HOE.out.atS HLL.out Sx.enc_len hxn).c3
      have ofz := HOE.out.frozenS HLL.out
      have oz := HOE.out.ltN.2
      obtain ⟨m0, m1⟩ := (HCM.out.below HBE.out hbb1).c2
      have hb1z := Nat.lt_of_lt_of_le hbb1 HBE.out.size
      dsimp only at o0 o1 o2 m0 m1
      go_wp2_with fail
      refine (HK84.out _ HBE.out).mono ?_
      rintro e5 w5 ⟨rfl, hb⟩
      have HB5 := Lib.hid (HBE.out.trans (hb.mono HBE.out.size))
      have HX5 := Lib.hid (HXE.out.later hb)
      have HO5 := Lib.hid (HOE.out.later hb)
      clear hb x0 x1 xf xz o0 o1 o2 ofz oz m0 m1 hb1z
      obtain ⟨o0, o1, o2⟩ := (HO5.out.atS HLL.out Sx.enc_len hxn).c3
      have ofz := HO5.out.frozenS HLL.out
      have oz := HO5.out.ltN.2
      dsimp only at o0 o1 o2
      have HB6 := Lib.hid (HB5.out.setCell (p := ⟨g, x * 3 + 0, none⟩) (by dsimp only; omega) (.bool qc))
      have HX6 := Lib.hid (HX5.out.other (a := ⟨g, x * 3 + 0, none⟩) (.bool qc) (by dsimp only; omega))
      have HO6 := Lib.hid (HO5.out.setS HLL.out Sx.enc_len hxn 0 (by omega) (.bool qc) ⟨qc, fd, gr⟩ rfl)
      simp only [Nat.add_zero] at HB6 HX6 HO6
      go_wp2_with fail
      go_roundw
      case rel => exact ⟨k + 1, by omega, by go_num, HB6.out, HX6.out, by rw [HSU.out]; exact HO6.out⟩
      case measure => simp [intOf]; omega
end Go.Proofs.YtahpdkkpnkhnhaaGreatDoor

/- Walks: Clean. -/
namespace Go.Proofs.YtahpdkkpnkhnhaaGreatDoor
open Go Go.Proofs Go.RowKit Go.Shelf
set_option maxRecDepth 100000 in
set_option maxHeartbeats 1000000 in
theorem runs112 (pb pc : Nat) (v1 v2 u : Value) (x : Int) (p : Pl) (st : List Sx) (w : World) (hw : WdR w) (hv : PlR w w.heap.size v1 v2 p) (hu : Sl Sx.enc 3 w w.heap.size u st) (hx : Box w pb 25 [v1, v2]) (hy : Box w pc 39 [u]) (hin : inN p.ms.length x = true) (hln : st.length = p.ms.length) :
    Calls Tryz.prog 112 (#[.int .i64 x] ++ #[.pointer (some ⟨pb, 0, none⟩), .pointer (some ⟨pc, 0, none⟩)]) w (Ret (.bool (!runK p st x)) w) := by
  obtain ⟨y, rfl, hyn⟩ := inN_nat hin
  obtain ⟨⟨a1, n1, rfl, hl1, hA1⟩, ⟨a2, n2, rfl, hl2, hA2⟩⟩ := hv
  obtain ⟨a3, n3, rfl, hl3, hA3⟩ := hu
  have hys : y < st.length := by omega
  obtain ⟨b1, off1, rfl, hbb1, hcells1⟩ := hA1 (by omega)
  obtain ⟨b3, off3, rfl, hbb3, hcells3⟩ := hA3 (by omega)
  obtain ⟨m0, m1⟩ := (hcells1 y hyn).c2
  have HCS := Lib.hid (hcells3 y hys)
  have HX := Lib.hid hx
  have HY := Lib.hid hy
  obtain ⟨x0, x1, xf, xz⟩ := hx.v2
  obtain ⟨y0, yf, yz⟩ := hy.v1
  obtain ⟨h11, h12⟩ := hl1
  obtain ⟨h31, h32⟩ := hl3
  have HRK := Lib.hid (show runK p st (y : Int) = !(cvB (kdA p y) && !(st.getD y s0).runs) from rfl)
  rw [stGet hys, kdA_nat hyn] at HRK
  clear hx hy hA1 hA2 hA3 hcells1 hcells3 hl2 hin
  have hyn2 : (y : Int) < p.ms.length := by omega
  rw [HRK.out]
  clear HRK
  rw [hln] at *
  generalize p.ms[y] = mx at *
  generalize st[y] = sx at *
  obtain ⟨sm, tm⟩ := mx
  obtain ⟨rn, fd, gr⟩ := sx
  dsimp only at m0 m1 ⊢
  have HK84 := Lib.hid (conveys84 sm tm w hw)
  obtain ⟨qc, hqc⟩ : ∃ q, cvB sm = q := ⟨_, rfl⟩
  rw [hqc] at HK84 ⊢
  clear hqc hw hys
  go_enter Tryz.func112, Tryz.ntmps112
  go_wp2_with fail
  refine HK84.out.mono ?_
  rintro e w2 ⟨rfl, hb2⟩
  have HB2 := Lib.hid hb2
  clear x0 x1 xf xz y0 yf yz m0 m1
  obtain ⟨y0, yf, yz⟩ := (HY.out.later hb2).v1
  obtain ⟨d0, d1, d2⟩ := (HCS.out.below hb2 hbb3).c3
  have hb3z := Nat.lt_of_lt_of_le hbb3 hb2.size
  dsimp only at d0 d1 d2
  clear hb2
  cases qc with
  | false =>
    go_wp2_with fail
    go_ret
    exact ⟨rfl, HB2.out⟩
  | true =>
    cases rn with
    | false =>
      go_wp2_with fail
      go_ret
      exact ⟨rfl, HB2.out⟩
    | true =>
      go_wp2_with fail
      go_ret
      exact ⟨rfl, HB2.out⟩
def cleanE (p : Pl) (st : List Sx) (l : List Int) : Int := if setE p st l ≠ 0 then setE p st l else if (setB st l && runsB p st l) = true then 0 else 26
set_option maxRecDepth 100000 in
set_option maxHeartbeats 1000000 in
theorem clean45 (w : World) (v1 v2 u y : Value) (p : Pl) (st : List Sx) (l : List Int) (hw : WdR w) (hv : PlR w w.heap.size v1 v2 p) (hu : Sl Sx.enc 3 w w.heap.size u st) (hs : SzR st) (hx : Sl encI 1 w w.heap.size y l) : Calls Tryz.prog 45 #[.agg #[v1, v2], u, y] w (StE w (cleanE p st l) (stopTo p l true st l.length)) := by
  have HP := Lib.hid (fun (w1 : World) (hb : Below w.heap.size w w1) => checkSet90 w1 _ _ u y p st l (hw.later hb) (hv.later hb) (hu.later hb) hs (hx.later hb))
  have HI := Lib.hid (fun (w1 : World) (hb : Below w.heap.size w w1) => isSet109 w1 u y st l (hu.later hb) (hx.later hb))
  have HT := Lib.hid (fun (w1 : World) (hb : Below w.heap.size w w1) => stopped110 w1 v1 v2 u y true p st l (hw.later hb) (hv.later hb) (hu.later hb) (hx.later hb))
  obtain ⟨a1, n1, a2, n2, rfl, rfl⟩ := hv.agg
  obtain ⟨a3, n3, e3, _, _⟩ := id hu
  obtain ⟨sn, hsn⟩ : ∃ n, st.length = n := ⟨_, rfl⟩
  rw [hsn] at e3
  subst e3
  clear hsn
  have HCF := Lib.hid (fun (w1 : World) (hb : Below w.heap.size w w1) (h1 : Box w1 w.heap.size 25 [.slice a1 p.ms.length n1, .slice a2 p.arcs.length n2]) (h2 : Box w1 (w.heap.size + 1) 39 [.slice a3 sn n3]) (hin : ∀ y ∈ l, inN p.ms.length y = true) (hln : st.length = p.ms.length) =>
    containsF111 y l 112 #[.pointer (some ⟨w.heap.size, 0, none⟩), .pointer (some ⟨w.heap.size + 1, 0, none⟩)] (fun x => !runK p st x) w1 (enters_of Tryz.func112 (by kernel_rfl) rfl) (hx.later hb) (fun w' x hb' hm =>
      runs112 w.heap.size (w.heap.size + 1) _ _ _ x p st w' (hw.later (hb.trans (hb'.mono hb.size))) (hv.later (hb.trans (hb'.mono hb.size))) (hu.later (hb.trans (hb'.mono hb.size))) (h1.later hb') (h2.later hb') (hin x hm) hln))
  have hany : l.any (fun x => !runK p st x) = !runsB p st l := by unfold runsB; rw [List.not_all_eq_any_not]
  rw [hany] at HCF
  clear hw hv hu hx hs hany
  have HB := Lib.hid ((Below.refl w.heap.size w).alloc (Nat.le_refl _) (.cells #[.slice a1 p.ms.length n1, .slice a2 p.arcs.length n2] 25))
  have HB := Lib.hid (HB.out.alloc (by simp) (.cells #[.slice a3 sn n3] 39))
  have HX := Lib.hid ((Box.new w #[.slice a1 p.ms.length n1, .slice a2 p.arcs.length n2] 25).alloc (.cells #[.slice a3 sn n3] 39))
  have HY := Lib.hid (Box.newAt (w.alloc (.cells #[.slice a1 p.ms.length n1, .slice a2 p.arcs.length n2] 25)) #[.slice a3 sn n3] 39 (by simp : _ = w.heap.size + 1))
  have HOK := Lib.hid (fun h : setE p st l = 0 => setE_ok h)
  unfold setE at HOK
  obtain ⟨E, hE⟩ : ∃ E, cleanE p st l = E := ⟨_, rfl⟩
  rw [hE]
  unfold cleanE setE at hE
  have HE := Lib.hid hE
  clear hE
  obtain ⟨cp, hcp⟩ : ∃ c, (if ckState p st ≠ 0 then ckState p st else pathE p l) = c := ⟨_, rfl⟩
  rw [hcp] at HP HE HOK
  clear hcp
  obtain ⟨NEW, hNEW⟩ : ∃ L, stopTo p l true st l.length = L := ⟨_, rfl⟩
  rw [hNEW] at HT ⊢
  clear hNEW
  obtain ⟨Q, hQ⟩ : ∃ Q, StE w E NEW = Q := ⟨_, rfl⟩
  rw [hQ]
  have HQ := Lib.hid hQ
  clear hQ
  go_enter Tryz.func45, Tryz.ntmps45
  go_wp2_with fail
  refine (HP.out _ HB.out).mono ?_
  rintro e w2 ⟨rfl, hb2⟩
  have HB2 := Lib.hid (HB.out.trans (hb2.mono HB.out.size))
  have HX2 := Lib.hid (HX.out.later hb2)
  have HY2 := Lib.hid (HY.out.later hb2)
  obtain ⟨y0, yf, yz⟩ := HY2.out.v1
  obtain ⟨x0, x1, xf, xz⟩ := HX2.out.v2
  clear hb2
  by_cases hc0 : cp = 0
  rotate_left
  · have k0 : (cp != 0) = true := by simpa using hc0
    rw [if_pos hc0] at HE
    have HC0 := Lib.hid hc0
    clear hc0
    go_wp2_with fail
    rw [← HQ.out, ← HE.out]
    exact StE.no HC0.out HB2.out
  subst hc0
  rw [if_neg (by simp)] at HE
  have HO := Lib.hid (HOK.out rfl)
  have HI2 := Lib.hid (fun (w1 : World) (hb : Below w.heap.size w w1) => HI.out w1 hb (by rw [HO.out.len]; exact HO.out.ins))
  have HT2 := Lib.hid (fun (w1 : World) (hb : Below w.heap.size w w1) => HT.out w1 hb HO.out.ins HO.out.len HO.out.ok.pos)
  clear HI HT HOK
  have HCF2 := Lib.hid (fun (w1 : World) (hb : Below w.heap.size w w1) h1 h2 => HCF.out w1 hb h1 h2 HO.out.ins HO.out.len)
  obtain ⟨q, hq⟩ : ∃ q, setB st l = q := ⟨_, rfl⟩
  obtain ⟨qr, hqr⟩ : ∃ q, runsB p st l = q := ⟨_, rfl⟩
  rw [hq] at HI2 HE
  rw [hqr] at HCF2 HE
  clear hq hqr HCF
  go_wp2_with fail
  refine (HI2.out _ HB2.out).mono ?_
  rintro e w3 ⟨rfl, hb3⟩
  have HB3 := Lib.hid (HB2.out.trans (hb3.mono HB2.out.size))
  clear x0 x1 xf xz y0 yf yz
  have HX3 := Lib.hid (HX2.out.later hb3)
  have HY3 := Lib.hid (HY2.out.later hb3)
  obtain ⟨x0, x1, xf, xz⟩ := HX3.out.v2
  obtain ⟨y0, yf, yz⟩ := HY3.out.v1
  clear hb3
  cases q with
  | false =>
    go_wp2_with fail
    rw [← HQ.out, ← HE.out]
    exact StE.no (by simp) HB3.out
  | true =>
    go_wp2_with fail
    refine (HCF2.out _ HB3.out HX3.out HY3.out).mono ?_
    rintro e w4 ⟨rfl, hb4⟩
    have HB4 := Lib.hid (HB3.out.trans (hb4.mono HB3.out.size))
    clear x0 x1 xf xz y0 yf yz
    have HX4 := Lib.hid (HX3.out.later hb4)
    have HY4 := Lib.hid (HY3.out.later hb4)
    obtain ⟨x0, x1, xf, xz⟩ := HX4.out.v2
    obtain ⟨y0, yf, yz⟩ := HY4.out.v1
    clear hb4
    cases qr with
    | false =>
      go_wp2_with fail
      rw [← HQ.out, ← HE.out]
      exact StE.no (by decide) HB4.out
    | true =>
      go_wp2_with fail
      refine (HT2.out _ HB4.out).mono ?_
      rintro e w5 ⟨v, rfl, hown, hb5⟩
      have HB5 := Lib.hid (HB4.out.trans (hb5.mono HB4.out.size))
      have HO5 := Lib.hid (hown.lower HB4.out.size)
      obtain ⟨av, cv, rfl⟩ := hown.shape
      clear hown hb5
      go_wp2_with fail
      rw [← HQ.out, ← HE.out]
      exact StE.yes HO5.out HB5.out
end Go.Proofs.YtahpdkkpnkhnhaaGreatDoor
