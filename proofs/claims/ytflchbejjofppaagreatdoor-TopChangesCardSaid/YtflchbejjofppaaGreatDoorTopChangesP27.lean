/- Lemmas on the way to the law TopChanges (part 27): Kc Kd Ke Kf -/
import Derived.Test.YtflchbejjofppaaGreatDoorTopChangesP26
import Derived.Test.YtflchbejjofppaaGreatDoorTopChangesP21
set_option linter.unusedVariables false
set_option linter.unusedSimpArgs false

/- Walks: the reference's subDigits. -/
namespace Go.Proofs.YtflchbejjofppaaGreatDoor.Nu
open Go Go.Proofs Go.RowKit Go.Proofs.YtflchbejjofppaaGreatDoor
set_option maxRecDepth 100000 in
set_option maxHeartbeats 1000000 in
theorem sub161 (w : World) (a1 a2 : Option Addr) (n1 n2 c1 c2 : Nat) (l1 l2 : List Nat) (m1 m2 : Nat) (h1 : DlR w (.slice a1 n1 c1) l1 m1) (h2 : DlR w (.slice a2 n2 c2) l2 m2) (hb1 : l1.length ≤ 900000) (hle : m2 ≤ m1) :
    Calls Tryz.prog 161 #[.slice a1 n1 c1, .slice a2 n2 c2] w (RetDl w (m1 - m2)) := by
  have HD1 := Lib.hid h1.dg
  have HD2 := Lib.hid h2.dg
  have e1 := h1.eq
  have e2 := h2.eq
  have hlen : l2.length ≤ l1.length := by
    rcases Nat.lt_or_ge l1.length l2.length with h | h
    · have := val_lt_len (B := 1000000000) (by decide) h1.dg h2.tr h
      omega
    · exact h
  have HC2 := Lib.hid (fun (w1 : World) (hb : Below w.heap.size w w1) (i : Nat) (hi : i ≤ 1000000000) => digit186 w1 a2 n2 c2 l2 (h2.sc.later hb) i hi)
  have HDN := Lib.hid (fun (d : List Nat) (c : Nat) (h : SubI 1000000000 l1 l2 d c l1.length) => (by have := (h.done hlen (by omega)).2; omega : val 1000000000 d = m1 - m2))
  obtain ⟨a1', c1', e, hl1, hl1', hA⟩ := h1.sc
  injection e with f0 f1 f2
  subst f0 f1 f2
  obtain ⟨S, hS⟩ : ∃ S, m1 - m2 = S := ⟨_, rfl⟩
  rw [hS] at HDN ⊢
  have HA := Lib.hid hA
  obtain ⟨N, hN⟩ : ∃ N, l1.length = N := ⟨_, rfl⟩
  have HN := Lib.hid hN
  rw [hN] at hb1 HDN ⊢
  clear hN hS e1 e2 hl1 hl1' h1 h2 hA hlen hle
  go_enter Tryz.func161, Tryz.ntmps161
  go_wp2_with fail
  go_loopw [5, 6, 7] (fun o cr i wr => ∃ (k c : Nat) (d : List Nat) (v : Value), v = o ∧ k ≤ N ∧ i = .int .i64 k ∧ cr = .int .i64 (c : Int) ∧ SubI 1000000000 l1 l2 d c k ∧ Below w.heap.size w wr ∧ Own encD 1 3 wr w.heap.size v d) (fun _ _ i _ => N - (intOf i).toNat)
  case atStart => exact ⟨0, 0, [], _, rfl, Nat.zero_le _, rfl, rfl, SubI.start _ _ _, Below.refl _ _, Own.nil _ _ _ _ _⟩
  case round =>
    obtain ⟨k, c, d, v, rfl, hk, rfl, rfl, hai, hbe, hown⟩ := hrel
    have HAI := Lib.hid hai
    have HB := Lib.hid hbe
    have HO := Lib.hid hown
    have hc1 := hai.carry
    have hdl := hai.len
    clear hai hown hbe
    by_cases hkN : k < N
    · have hkl : k < l1.length := by rw [HN.out]; exact hkN
      obtain ⟨b, off, rfl, hbb, hcells⟩ := HA.out (by omega)
      have g1 := cellD ((hcells k hkl).below HB.out hbb)
      rw [Nat.mul_one] at g1
      have hbz : b < wr.heap.size := by have := HB.out.size; omega
      have hx := HD1.out.dig (by decide) k
      have hy := HD2.out.dig (by decide) k
      have HCY := Lib.hid (fun (X : Later wr) => HC2.out X.w (HB.out.trans (X.h.mono HB.out.size)) k (by omega))
      rw [← dig_lt_len hkl] at g1
      have hway : ∃ s c', s + dig l2 k + c = dig l1 k + 1000000000 * c' ∧ s < 1000000000 ∧ c' ≤ 1 ∧ ((c' = 0 ∧ IntKind.i64.wrap (IntKind.i64.wrap ((dig l1 k : Int) - (dig l2 k : Int)) - (c : Int)) = (s : Int)) ∨ (c' = 1 ∧ ∃ t : Int, t < 0 ∧ IntKind.i64.wrap (IntKind.i64.wrap ((dig l1 k : Int) - (dig l2 k : Int)) - (c : Int)) = t ∧ IntKind.i64.wrap (t + 1000000000) = (s : Int))) := by
        have e1 : IntKind.i64.wrap ((dig l1 k : Int) - (dig l2 k : Int)) = (dig l1 k : Int) - (dig l2 k : Int) := IntWalk.i64_in _ (by omega)
        have e2 : IntKind.i64.wrap ((dig l1 k : Int) - (dig l2 k : Int) - (c : Int)) = (dig l1 k : Int) - (dig l2 k : Int) - (c : Int) := IntWalk.i64_in _ (by omega)
        rw [e1, e2]
        by_cases h : dig l2 k + c ≤ dig l1 k
        · exact ⟨dig l1 k - (dig l2 k + c), 0, by omega, by omega, by omega, .inl ⟨rfl, by omega⟩⟩
        · exact ⟨dig l1 k + 1000000000 - (dig l2 k + c), 1, by omega, by omega, by omega, .inr ⟨rfl, _, by omega, rfl, by rw [IntWalk.i64_in _ (by omega)]; omega⟩⟩
      obtain ⟨s, c', hs, hs9, hc', hway⟩ := hway
      have HSTEP := Lib.hid (HAI.out.step (by decide) HD1.out HD2.out hs hs9 hc')
      have HKM := Lib.hid hkN
      have hdl2 : d.length ≤ 1000000 := by omega
      clear hs HAI hdl hkl hcells
      generalize dig l1 k = x at *
      generalize dig l2 k = y at *
      have k5 : decide (k < N) = true := decide_eq_true hkN
      have k3 : decide ((N : Int) ≤ (k : Int)) = false := decide_eq_false (by omega)
      have kk : IntKind.i64.wrap ((k : Int) + 1) = ((k + 1 : Nat) : Int) := by rw [IntWalk.i64_in _ (by omega)]; omega
      obtain ⟨z, hz⟩ : ∃ z, IntKind.i64.wrap ((x : Int) - (y : Int)) = z := ⟨_, rfl⟩
      rw [hz] at hway
      rcases hway with ⟨rfl, kz⟩ | ⟨rfl, t, ht, kz, kt⟩
      · have ks : decide ((s : Int) < 0) = false := decide_eq_false (by omega)
        clear hx hy hs9 hc'
        go_wp2_with fail
        refine wp_region_head_later 10 (by kernel_rfl) (by kernel_rfl) ?_
        simp only [List.take_succ_cons, List.take_zero, List.drop_succ_cons, List.drop_zero]
        repeat go_big_quiet_step ((go_at_call 186; exact Calls.later_same (HCY.out _)))
        refine wpQuiet_nil ?_
        rintro w2 ⟨⟨_, hb2⟩, rfl⟩
        replace HB := Lib.hid (HB.out.trans (hb2.mono HB.out.size))
        replace HO := Lib.hid (HO.out.later hb2)
        have HBA := Lib.hid (HB.out.alloc HB.out.size (.cells #[.int .i64 (s : Int)] 3))
        have HOA := Lib.hid (HO.out.alloc (.cells #[.int .i64 (s : Int)] 3))
        have HSZ := Lib.hid (show w.heap.size ≤ (w2.alloc (.cells #[.int .i64 (s : Int)] 3)).heap.size by have := HB.out.size; simp; omega)
        have HLE := Lib.hid hdl2
        have HRH := Lib.hid (Box.new w2 #[.int .i64 (s : Int)] 3)
        clear hb2
        go_wp2_with (at_builtin; (refine wpList_pushB encD 1 8 26 3 _ Tryz.underlying26 infoD rfl (by decide) (by decide) encD_len encD_one d s w.heap.size _ _ _ _ HRH.out rfl _ HOA.out HSZ.out HLE.out rfl _ _ rfl rfl rfl ?_); intro v' w' hown' hg')
        go_roundw
        case rel => exact ⟨k + 1, _, _, v', rfl, HKM.out, rfl, rfl, HSTEP.out, HBA.out.grown hg' HBA.out.size (fun j hj => HOA.out.lt' j hj), hown'⟩
        case measure => have := HKM.out; simp only [intOf]; omega
      · have ks : decide (t < 0) = true := decide_eq_true ht
        clear hx hy hs9 hc' ht
        go_wp2_with fail
        refine wp_region_head_later 10 (by kernel_rfl) (by kernel_rfl) ?_
        simp only [List.take_succ_cons, List.take_zero, List.drop_succ_cons, List.drop_zero]
        repeat go_big_quiet_step ((go_at_call 186; exact Calls.later_same (HCY.out _)))
        refine wpQuiet_nil ?_
        rintro w2 ⟨⟨_, hb2⟩, rfl⟩
        replace HB := Lib.hid (HB.out.trans (hb2.mono HB.out.size))
        replace HO := Lib.hid (HO.out.later hb2)
        have HBA := Lib.hid (HB.out.alloc HB.out.size (.cells #[.int .i64 (s : Int)] 3))
        have HOA := Lib.hid (HO.out.alloc (.cells #[.int .i64 (s : Int)] 3))
        have HSZ := Lib.hid (show w.heap.size ≤ (w2.alloc (.cells #[.int .i64 (s : Int)] 3)).heap.size by have := HB.out.size; simp; omega)
        have HLE := Lib.hid hdl2
        have HRH := Lib.hid (Box.new w2 #[.int .i64 (s : Int)] 3)
        clear hb2
        go_wp2_with (at_builtin; (refine wpList_pushB encD 1 8 26 3 _ Tryz.underlying26 infoD rfl (by decide) (by decide) encD_len encD_one d s w.heap.size _ _ _ _ HRH.out rfl _ HOA.out HSZ.out HLE.out rfl _ _ rfl rfl rfl ?_); intro v' w' hown' hg')
        go_roundw
        case rel => exact ⟨k + 1, _, _, v', rfl, HKM.out, rfl, rfl, HSTEP.out, HBA.out.grown hg' HBA.out.size (fun j hj => HOA.out.lt' j hj), hown'⟩
        case measure => have := HKM.out; simp only [intOf]; omega
    · obtain rfl : k = N := by omega
      have HV := Lib.hid (HDN.out d c HAI.out)
      have HDG := Lib.hid HAI.out.dg
      have g1 : decide (k < k) = false := decide_eq_false (by omega)
      obtain ⟨aa, nn, cc, hsh⟩ : ∃ aa nn cc, v = .slice aa nn cc := by obtain ⟨aa, cc, e, _⟩ := (Sc.of_own encD_len (by omega) HO.out).shape; exact ⟨aa, _, cc, e⟩
      subst hsh
      have HSC := Lib.hid (Sc.of_own encD_len (by omega) HO.out)
      have HT := Lib.hid (trim111 wr aa nn cc d HSC.out)
      clear hkN hk hdl
      go_wp2_with fail
      refine HT.out.mono ?_
      rintro e4 w4 ⟨rfl, rfl⟩
      go_wp2_with fail
      go_ret
      exact ⟨_, _, _, _, rfl, ⟨HSC.out.take _ (trimN_spec d).1, HDG.out.take _, (trimN_spec d).2.1, by rw [val_trimN]; exact HV.out⟩, HB.out⟩
end Go.Proofs.YtflchbejjofppaaGreatDoor.Nu
/- Walks: the reference's mulDigits. -/
namespace Go.Proofs.YtflchbejjofppaaGreatDoor.Nu
open Go Go.Proofs Go.RowKit Go.Proofs.YtflchbejjofppaaGreatDoor
set_option maxRecDepth 100000 in
set_option maxHeartbeats 4000000 in
theorem mul135 (w : World) (a1 a2 : Option Addr) (n1 n2 c1 c2 : Nat) (lx ly : List Nat) (m1 m2 : Nat) (h1 : DlR w (.slice a1 n1 c1) lx m1) (h2 : DlR w (.slice a2 n2 c2) ly m2) (hb1 : lx.length ≤ 400000) (hb2 : ly.length ≤ 400000) :
    Calls Tryz.prog 135 #[.slice a1 n1 c1, .slice a2 n2 c2] w (RetDl w (m1 * m2)) := by
  obtain ⟨⟨a1', c1', e, hl1, hl1', hA1⟩, hd1, ht1, hv1⟩ := h1
  injection e with e1 e2 e3
  subst e1 e2 e3
  obtain ⟨⟨a2', c2', e, hl2, hl2', hA2⟩, hd2, ht2, hv2⟩ := h2
  injection e with e1 e2 e3
  subst e1 e2 e3
  have HAX := Lib.hid hA1
  have HAY := Lib.hid hA2
  have HDX := Lib.hid hd1
  have HDY := Lib.hid hd2
  obtain ⟨S, hS⟩ : ∃ S, m1 * m2 = S := ⟨_, rfl⟩
  rw [hS]
  have HS := Lib.hid (show val 1000000000 lx * val 1000000000 ly = S by rw [hv1, hv2, hS])
  obtain ⟨X, hN⟩ : ∃ N, lx.length = N := ⟨_, rfl⟩
  obtain ⟨Y, hM⟩ : ∃ M, ly.length = M := ⟨_, rfl⟩
  have HNX := Lib.hid hN
  have HNY := Lib.hid hM
  rw [hN] at hb1 hl1' ⊢
  rw [hM] at hb2 hl2' ⊢
  have HINFO := Lib.hid infoD
  obtain ⟨Z, hZ⟩ : ∃ Z, X + Y = Z := ⟨_, rfl⟩
  have k1 : IntKind.i64.wrap ((X : Int) + (Y : Int)) = (Z : Int) := by rw [IntWalk.i64_in _ (by omega)]; omega
  have HZ := Lib.hid hZ
  clear hZ hA1 hA2 hN hM hS hv1 hv2 hd1 hd2 ht1 ht2 hl1 hl2
  go_enter Tryz.func135, Tryz.ntmps135
  go_wp2_with (at_make; refine mk1 encD 0 (.int .i64 0) rfl 26 3 8 Tryz.underlying26 HINFO.out rfl (by decide) w.heap.size w Z (by have := HZ.out; omega) (Nat.le_refl _) rfl _ _ rfl .i64 .i64 rfl rfl ?_; intro w3 ho3 hg3)
  have HB3 := Lib.hid (grown_none hg3)
  have HO3 := Lib.hid ho3
  have HST0 := Lib.hid (MulO.start (B := 1000000000) (by decide) lx ly)
  rw [HNX.out, HNY.out, HZ.out] at HST0
  clear ho3 hg3 k1
  go_loopw [6] (fun i wr => ∃ (k : Nat) (o : List Nat), k ≤ X ∧ i = .int .i64 k ∧ MulO 1000000000 o lx ly k ∧ Below w.heap.size w wr ∧ Own encD 1 3 wr w.heap.size (.slice (some ⟨w.heap.size, 0, none⟩) Z Z) o) (fun i _ => X - (intOf i).toNat)
  case atStart => exact ⟨0, List.replicate Z 0, Nat.zero_le _, rfl, HST0.out, HB3.out, HO3.out⟩
  case round =>
    obtain ⟨k, o, hk, rfl, hmo, hbe, hown⟩ := hrel
    have HMO := Lib.hid hmo
    have HB := Lib.hid hbe
    have HO := Lib.hid hown
    have HLL := Lib.hid (show o.length = Z by rw [hmo.len, HNX.out, HNY.out, HZ.out])
    clear hmo hown hbe HST0 HB3 HO3
    by_cases hkX : k < X
    · have k2 : decide ((k : Int) < (X : Int)) = true := decide_eq_true (by omega)
      have k2' : decide (k < X) = true := decide_eq_true (by omega)
      have hkx : k < lx.length := by rw [HNX.out]; exact hkX
      obtain ⟨b1, o1, rfl, hbb1, hcells1⟩ := HAX.out (by omega)
      have g1 := ((hcells1 k hkx).below HB.out hbb1).c1
      rw [Nat.mul_one] at g1
      have hz1 : b1 < wr.heap.size := by have := HB.out.size; omega
      have HG1 := Lib.hid (fun (w1 : World) (hb : Below w.heap.size w w1) => (by
        have h := ((hcells1 k hkx).below hb hbb1).c1
        rw [Nat.mul_one] at h
        exact ⟨h, by have := hb.size; omega⟩ : w1.cell? ⟨b1, o1 + k, none⟩ = some (.int .i64 (lx[k] : Int)) ∧ b1 < w1.heap.size))
      have HROW := Lib.hid (HMO.out.row hkx (by decide))
      have HSTEP := Lib.hid (fun o' c hl hz h => MulO.step (B := 1000000000) (a := lx) (b := ly) (i := k) (o' := o') (c := c) hkx hl hz h)
      have HXB := Lib.hid (HDX.out.get k hkx)
      have HZER := Lib.hid (show ∀ q (h : q < o.length), k + ly.length ≤ q → o[q] = 0 from HMO.out.zer)
      have k3 : IntKind.i64.wrap ((k : Int) + 1) = ((k + 1 : Nat) : Int) := by rw [IntWalk.i64_in _ (by omega)]; omega
      obtain ⟨kY, hkY⟩ : ∃ q, k + Y = q := ⟨_, rfl⟩
      have HKY := Lib.hid hkY
      have k9 : IntKind.i64.wrap ((k : Int) + (Y : Int)) = (kY : Int) := by rw [IntWalk.i64_in _ (by omega)]; omega
      clear hkY
      clear hcells1 HMO
      generalize lx[k] = x at *
      go_wp2_with fail
      obtain ⟨U, hU⟩ : ∃ U : World, U = wr := ⟨_, rfl⟩
      subst hU
      go_loopw [7, 8] (fun cr i wr => ∃ (j c : Nat) (o : List Nat), j ≤ Y ∧ i = .int .i64 j ∧ cr = .int .i64 (c : Int) ∧ o.length = Z ∧ (∀ q (h : q < o.length), k + ly.length ≤ q → o[q] = 0) ∧ MulI 1000000000 o ly (val 1000000000 (lx.take k) * val 1000000000 ly) x k j c ∧ Below w.heap.size w wr ∧ Own encD 1 3 wr w.heap.size (.slice (some ⟨w.heap.size, 0, none⟩) Z Z) o) (fun _ i _ => Y - (intOf i).toNat)
      case atStart => exact ⟨0, 0, o, Nat.zero_le _, rfl, rfl, HLL.out, HZER.out, HROW.out, HB.out, HO.out⟩
      case round =>
        clear HB HO HLL HROW HZER g1 hz1
        obtain ⟨j, c, o, hj, rfl, rfl, hlo, hze, hmi, hbe, hown⟩ := hrel
        have HMI := Lib.hid hmi
        have HB := Lib.hid hbe
        have HO := Lib.hid hown
        have HLL := Lib.hid hlo
        have HZE := Lib.hid hze
        have HCB := Lib.hid hmi.carry
        have hz2 : w.heap.size < wr.heap.size := ownBlk HO.out
        clear hmi hown hbe hlo hze
        by_cases hjY : j < Y
        · have k4 : decide ((j : Int) < (Y : Int)) = true := decide_eq_true (by omega)
          have k4' : decide (j < Y) = true := decide_eq_true (by omega)
          have hjy : j < ly.length := by rw [HNY.out]; exact hjY
          obtain ⟨b2, o2, rfl, hbb2, hcells2⟩ := HAY.out (by omega)
          have g2 := ((hcells2 j hjy).below HB.out hbb2).c1
          rw [Nat.mul_one] at g2
          have hz3 : b2 < wr.heap.size := by have := HB.out.size; omega
          obtain ⟨kj, hkje⟩ : ∃ q, k + j = q := ⟨_, rfl⟩
          have HKJ := Lib.hid hkje
          have hkj2 : kj < Z := by have := HZ.out; omega
          obtain ⟨g1, hz1⟩ := HG1.out wr HB.out
          have hkj : kj < o.length := by rw [HLL.out]; exact hkj2
          have hfz := Own.frozenN HO.out HLL.out kj
          have g0 := own_cell1 HO.out HLL.out encD_len kj hkj (.int .i64 (o[kj] : Int)) rfl
          have HSET := Lib.hid (fun (y : Nat) => own_set1 HO.out HLL.out encD_len kj hkj2 y (.int .i64 (y : Int)) rfl)
          have HST := Lib.hid (fun s (hs : s = o[kj] + x * ly[j] + c) => (by
            have h := HMI.out.step (by decide) HDY.out HXB.out hjy (by rw [HKJ.out]; exact hkj) (s := s) (by simp only [HKJ.out]; exact hs)
            rw [HKJ.out] at h; exact h : MulI 1000000000 (o.set kj (s % 1000000000)) ly (val 1000000000 (lx.take k) * val 1000000000 ly) x k (j + 1) (s / 1000000000)))
          have hyB := HDY.out.get j hjy
          have hoB := HMI.out.dg.get _ hkj
          have k5 : IntKind.i64.wrap ((j : Int) + 1) = ((j + 1 : Nat) : Int) := by rw [IntWalk.i64_in _ (by omega)]; omega
          have k6 : IntKind.i64.wrap ((k : Int) + (j : Int)) = (kj : Int) := by rw [IntWalk.i64_in _ (by omega)]; omega
          clear hcells2
          generalize ly[j] = y at *
          clear hkje
          generalize hoq : o[kj] = oq at *
          have hcB := HCB.out
          have hxB := HXB.out
          obtain ⟨p, hp⟩ : ∃ p, x * y = p := ⟨_, rfl⟩
          have hp9 : p ≤ 999999999 * 999999999 := by rw [← hp]; exact Nat.mul_le_mul (by omega) (by omega)
          have q1 : IntKind.i64.wrap ((x : Int) * (y : Int)) = (p : Int) := by rw [show (x : Int) * (y : Int) = (p : Int) by rw [← hp]; exact (Int.natCast_mul x y).symm]; exact IntWalk.i64_in _ (by omega)
          obtain ⟨u, hu⟩ : ∃ u, oq + p = u := ⟨_, rfl⟩
          have q2 : IntKind.i64.wrap ((oq : Int) + (p : Int)) = (u : Int) := by rw [IntWalk.i64_in _ (by omega)]; omega
          obtain ⟨s, hs⟩ : ∃ s, u + c = s := ⟨_, rfl⟩
          have q3 : IntKind.i64.wrap ((u : Int) + (c : Int)) = (s : Int) := by rw [IntWalk.i64_in _ (by omega)]; omega
          have hs9 : s ≤ 1000000000000000000 := by omega
          have HSN := Lib.hid (HST.out s (by rw [hp, hu, hs]))
          have q4 : (s : Int).tmod 1000000000 = ((s % 1000000000 : Nat) : Int) := by rw [Int.tmod_eq_emod_of_nonneg (by omega)]; omega
          have q5 : (s : Int).tdiv 1000000000 = ((s / 1000000000 : Nat) : Int) := by rw [Int.tdiv_eq_ediv_of_nonneg (by omega)]; omega
          have hqq : s / 1000000000 ≤ 1000000000 := by omega
          generalize s % 1000000000 = dd at *
          generalize s / 1000000000 = q at *
          have q6 : IntKind.i64.wrap ((q : Nat) : Int) = (q : Int) := IntWalk.i64_in _ (by omega)
          have k3a : decide ((Z : Int) ≤ (kj : Int)) = false := decide_eq_false (by omega)
          have k3b : decide ((X : Int) ≤ (k : Int)) = false := decide_eq_false (by omega)
          have k3c : decide ((Y : Int) ≤ (j : Int)) = false := decide_eq_false (by omega)
          clear HST hp hp9 hu hs hs9 hyB hoB hoq hcB hxB hqq
          go_wp2_with fail
          go_quiet (fail)
          go_wp2_with fail
          go_roundw
          case rel =>
            refine ⟨j + 1, q, o.set kj dd, by omega, by go_num, rfl, by rw [List.length_set]; exact HLL.out, fun q h hq => ?_, ?_, (below_drewN HB.out _).setCell (Nat.le_refl _) _, (HSET.out dd : _)⟩
            · rw [List.getElem_set_ne (by have := HKJ.out; have := hjY; rw [HNY.out] at hq; omega)]
              exact HZE.out q (by rwa [List.length_set] at h) hq
            · exact HSN.out
          case measure => simp [intOf]; omega
        · obtain rfl : Y = j := by omega
          have hkY : kY < Z := by have := HZ.out; have := HKY.out; omega
          have hkYl : kY < o.length := by rw [HLL.out]; exact hkY
          have hfz := Own.frozenN HO.out HLL.out kY
          have g0 := own_cell1 HO.out HLL.out encD_len kY hkYl (.int .i64 (0 : Int)) (by rw [HZE.out kY hkYl (by rw [HNY.out, HKY.out]; exact Nat.le_refl _)]; rfl)
          have HNEW := Lib.hid (HSTEP.out o c (by rw [HLL.out, HNX.out, HNY.out, HZ.out]) HZE.out (by rw [HNY.out]; exact HMI.out))
          rw [HNY.out, HKY.out] at HNEW
          have HO2 := Lib.hid (own_set1 HO.out HLL.out encD_len kY hkY c (.int .i64 (c : Int)) rfl)
          have hcB := HMI.out.carry
          have kc : IntKind.i64.wrap ((0 : Int) + (c : Int)) = (c : Int) := by rw [IntWalk.i64_in _ (by omega)]; omega
          have kc' : IntKind.i64.wrap (c : Int) = (c : Int) := IntWalk.i64_in _ (by omega)
          go_wp2_with fail
          go_roundw
          case rel => exact ⟨k + 1, _, by omega, by go_num, HNEW.out, HB.out.setCell (Nat.le_refl _) _, HO2.out⟩
          case measure => simp [intOf]; omega
    · obtain rfl : X = k := by omega
      have HVL := Lib.hid (show val 1000000000 o = S by
        have h := HMO.out
        rw [← HNX.out] at h
        rw [h.done, HS.out])
      have HSC := Lib.hid (Sc.of_own encD_len (by have := HZ.out; rw [HLL.out]; omega) HO.out)
      have HTR := Lib.hid (trim111 _ _ _ _ _ HSC.out)
      have HDG := Lib.hid HMO.out.dg
      go_wp2_with fail
      refine HTR.out.mono ?_
      rintro e5 w5 ⟨rfl, rfl⟩
      go_wp2_with fail
      go_ret
      exact ⟨_, _, _, _, rfl, ⟨HSC.out.take _ (trimN_spec o).1, HDG.out.take _, (trimN_spec o).2.1, by rw [val_trimN]; exact HVL.out⟩, HB.out⟩
end Go.Proofs.YtflchbejjofppaaGreatDoor.Nu
/- Walks: the reference's divDigit. -/
namespace Go.Proofs.YtflchbejjofppaaGreatDoor.Nu
open Go Go.Proofs Go.RowKit Go.Proofs.YtflchbejjofppaaGreatDoor
set_option maxRecDepth 100000 in
set_option maxHeartbeats 4000000 in
theorem div134 (w : World) (a : Option Addr) (n c : Nat) (l : List Nat) (m : Nat) (h : DzR w (.slice a n c) l m) (hb1 : l.length ≤ 900000) (d : Nat) (hd : 0 < d) (hd2 : d ≤ 1000000000) :
    Calls Tryz.prog 134 #[.slice a n c, .int .i64 (d : Int)] w fun e w' => ∃ a' n' c' q, e = .returned (.tuple #[.slice a' n' c', .int .i64 ((m % d : Nat) : Int)]) ∧ DlR w' (.slice a' n' c') q (m / d) ∧ Below w.heap.size w w' := by
  obtain ⟨⟨a', c', e, hl, hl', hA⟩, hdg, hv⟩ := h
  injection e with e1 e2 e3
  subst e1 e2 e3
  have HA := Lib.hid hA
  have HDG := Lib.hid hdg
  obtain ⟨S, hS⟩ : ∃ S, m % d = S := ⟨_, rfl⟩
  obtain ⟨T, hT⟩ : ∃ T, m / d = T := ⟨_, rfl⟩
  rw [hS, hT]
  have HS := Lib.hid (show val 1000000000 l % d = S by rw [hv, hS])
  have HT := Lib.hid (show val 1000000000 l / d = T by rw [hv, hT])
  have HST := Lib.hid (fun (q : List Nat) (hq : q.length = l.length) => DivI.start (B := 1000000000) (a := l) hd hq)
  have HDD := Lib.hid hd2
  obtain ⟨N, hN⟩ : ∃ N, l.length = N := ⟨_, rfl⟩
  have HN := Lib.hid hN
  rw [hN] at hb1 hl' HST ⊢
  have HINFO := Lib.hid infoD
  have hd0 : ¬ d = 0 := by omega
  have hdi : ¬ (d : Int) = 0 := by omega
  have hdb : ((d : Int) == 0) = false := beq_eq_false_iff_ne.2 hdi
  have k0 : IntKind.i64.wrap ((N : Int) - 1) = (N : Int) - 1 := IntWalk.i64_in _ (by omega)
  clear hA hN hS hT hv hdg hl hd hd2
  go_enter Tryz.func134, Tryz.ntmps134
  go_wp2_with (at_make; refine mk1 encD 0 (.int .i64 0) rfl 26 3 8 Tryz.underlying26 HINFO.out rfl (by decide) w.heap.size w N (by omega) (Nat.le_refl _) rfl _ _ rfl .i64 .i64 rfl rfl ?_; intro w3 ho3 hg3)
  have HB3 := Lib.hid (grown_none hg3)
  have HO3 := Lib.hid ho3
  clear ho3 hg3
  go_loopw [7, 8] (fun r i wr => ∃ (k rr : Nat) (q : List Nat), k ≤ N ∧ i = .int .i64 ((k : Int) - 1) ∧ r = .int .i64 (rr : Int) ∧ DivI 1000000000 l q d rr k ∧ Below w.heap.size w wr ∧ Own encD 1 3 wr w.heap.size (.slice (some ⟨w.heap.size, 0, none⟩) N N) q) (fun _ i _ => (intOf i + 1).toNat)
  case atStart => exact ⟨N, 0, List.replicate N 0, Nat.le_refl _, rfl, rfl, HST.out _ List.length_replicate, HB3.out, HO3.out⟩
  case round =>
    obtain ⟨k, rr, q, hk, rfl, rfl, hdi2, hbe, hown⟩ := hrel
    have HDI := Lib.hid hdi2
    have HB := Lib.hid hbe
    have HO := Lib.hid hown
    have HLL := Lib.hid (show q.length = N by rw [hdi2.len, HN.out])
    clear hdi2 hbe hown HB3 HO3 HST k0
    by_cases h0 : k = 0
    · subst h0
      obtain ⟨hq1, hq2⟩ := HDI.out.done
      rw [HS.out] at hq2
      rw [HT.out] at hq1
      subst hq2
      have HQ := Lib.hid hq1
      have HDQ := Lib.hid (show Dg 1000000000 q from HDI.out.dg)
      have HSC := Lib.hid (Sc.of_own encD_len (by rw [HLL.out]; omega) HO.out)
      have HTR := Lib.hid (trim111 _ _ _ _ _ HSC.out)
      clear hq1 HDI
      go_wp2_with fail
      refine HTR.out.mono ?_
      rintro e5 w5 ⟨rfl, rfl⟩
      go_wp2_with fail
      refine bodyPost_ret (v := .tuple #[.slice (some ⟨w.heap.size, 0, none⟩) (trimN q) N, .int .i64 (rr : Int)]) (by simp [results, Tryz.results134, go_sem, *]) rfl ?_
      exact ⟨_, _, _, _, rfl, ⟨HSC.out.take _ (trimN_spec q).1, HDQ.out.take _, (trimN_spec q).2.1, by rw [val_trimN]; exact HQ.out⟩, HB.out⟩
    · obtain ⟨j, rfl⟩ : ∃ j, k = j + 1 := ⟨k - 1, by omega⟩
      have hjl : j < l.length := by rw [HN.out]; omega
      have hjN : j < N := by omega
      have hjq : j < q.length := by rw [HLL.out]; exact hjN
      obtain ⟨b, off, rfl, hbb, hcells⟩ := HA.out (by omega)
      have g1 := cellD ((hcells j hjl).below HB.out hbb)
      rw [Nat.mul_one] at g1
      have hbz : b < wr.heap.size := by have := HB.out.size; omega
      have hbz2 : w.heap.size < wr.heap.size := ownBlk HO.out
      have hfz := Own.frozenN HO.out HLL.out j
      have g0 := own_cell1 HO.out HLL.out encD_len j hjq (.int .i64 (q[j] : Int)) rfl
      have HSET := Lib.hid (fun (y : Nat) => own_set1 HO.out HLL.out encD_len j hjN y (.int .i64 (y : Int)) rfl)
      have hx := HDG.out.get j hjl
      have hrr := HDI.out.rest
      have hd2 := HDD.out
      obtain ⟨p, hp⟩ : ∃ p, rr * 1000000000 = p := ⟨_, rfl⟩
      obtain ⟨s, hs⟩ : ∃ s, p + l[j] = s := ⟨_, rfl⟩
      have HSTEP := Lib.hid (HDI.out.step (by decide) hd2 HDG.out hjl (s := s) (by rw [hp, hs]))
      clear hcells HDI
      generalize l[j] = x at *
      generalize q[j] = y0 at *
      have q1 : IntKind.i64.wrap ((rr : Int) * 1000000000) = (p : Int) := by rw [IntWalk.i64_in _ (by omega)]; omega
      have q2 : IntKind.i64.wrap ((p : Int) + (x : Int)) = (s : Int) := by rw [IntWalk.i64_in _ (by omega)]; omega
      have hs9 : s < 2000000000000000000 := by omega
      have hsq : s / d ≤ s := Nat.div_le_self _ _
      have hsr : s % d < d := Nat.mod_lt _ (by omega)
      have q4 : (s : Int).tdiv (d : Int) = ((s / d : Nat) : Int) := by rw [Int.tdiv_eq_ediv_of_nonneg (by omega)]; exact (Int.natCast_ediv s d).symm
      have q5 : (s : Int).tmod (d : Int) = ((s % d : Nat) : Int) := by rw [Int.tmod_eq_emod_of_nonneg (by omega)]; exact (Int.natCast_emod s d).symm
      generalize s / d = t at *
      generalize s % d = r2 at *
      have q6 : IntKind.i64.wrap ((t : Nat) : Int) = (t : Int) := IntWalk.i64_in _ (by omega)
      have q7 : IntKind.i64.wrap ((r2 : Nat) : Int) = (r2 : Int) := IntWalk.i64_in _ (by omega)
      have k5 : (((j + 1 : Nat) : Int) - 1) = (j : Int) := by omega
      rw [k5]
      have k2 : decide ((0 : Int) ≤ (j : Int)) = true := decide_eq_true (by omega)
      have k2' : decide (0 ≤ j) = true := decide_eq_true (by omega)
      have k3 : decide ((N : Int) ≤ (j : Int)) = false := decide_eq_false (by omega)
      have k1 : IntKind.i64.wrap ((j : Int) - 1) = (j : Int) - 1 := IntWalk.i64_in _ (by omega)
      clear hp hs hs9 hsq hsr hx hrr hd2 hjl hjq k5 h0
      go_wp2_with fail
      go_roundw
      case rel => exact ⟨j, r2, q.set j t, by omega, by go_num, rfl, HSTEP.out, HB.out.setCell (Nat.le_refl _) _, HSET.out t⟩
      case measure => simp [intOf]; try omega
end Go.Proofs.YtflchbejjofppaaGreatDoor.Nu
/- Walks: the reference's divDigits by one digit. -/
namespace Go.Proofs.YtflchbejjofppaaGreatDoor.Nu
open Go Go.Proofs Go.RowKit Go.Proofs.YtflchbejjofppaaGreatDoor
def RetDd (w : World) (q r : Nat) (e : Ending) (w' : World) : Prop := ∃ a1 n1 c1 l1 a2 n2 c2 l2, e = .returned (.tuple #[.slice a1 n1 c1, .slice a2 n2 c2]) ∧ DlR w' (.slice a1 n1 c1) l1 q ∧ DlR w' (.slice a2 n2 c2) l2 r ∧ Below w.heap.size w w'
theorem DlR.toZ {w : World} {v : Value} {l : List Nat} {m : Nat} (h : DlR w v l m) : DzR w v l m := ⟨h.sc, h.dg, h.eq⟩
theorem DlR.nil (w : World) : DlR w (.slice none 0 0) [] 0 := ⟨Sc.nil _ _ _ _ _ _, Dg.nil _, Tr.nil, rfl⟩
theorem DlR.cutz {w : World} {a : Option Addr} {n c : Nat} {l : List Nat} {m : Nat} (h : Sc encD 1 w w.heap.size (.slice a n c) l) (hd : Dg 1000000000 l) (hv : val 1000000000 l = m) : DlR w (.slice a (trimN l) c) (l.take (trimN l)) m :=
  ⟨h.take _ (trimN_spec l).1, hd.take _, (trimN_spec l).2.1, by rw [val_trimN]; exact hv⟩
theorem DlR.one {w : World} {a : Option Addr} {n c : Nat} {l : List Nat} {m : Nat} (h : DlR w (.slice a n c) l m) (hl : l.length = 1) : ∃ b off, a = some ⟨b, off, none⟩ ∧ b < w.heap.size ∧ n = 1 ∧ w.cell? ⟨b, off, none⟩ = some (.int .i64 (m : Int)) ∧ 0 < m ∧ m < 1000000000 := by
  obtain ⟨⟨a', c', e, _, _, hA⟩, hd, ht, hv⟩ := h
  injection e with e1 e2 e3
  subst e1 e2 e3
  obtain ⟨b, off, rfl, hb, hc⟩ := hA (by omega)
  match l, hl with
  | [x], _ =>
    rw [val_one] at hv
    subst hv
    have h0 := cellD (hc 0 (by simp))
    simp only [List.getElem_cons_zero, Nat.zero_mul, Nat.add_zero] at h0
    have hx := ht.last (by simp)
    simp only [List.length_singleton, Nat.sub_self, List.getElem_cons_zero] at hx
    exact ⟨b, off, rfl, hb, rfl, h0, by omega, hd x (by simp)⟩
theorem sc_new (w : World) (r : Nat) : Sc encD 1 (w.alloc (.cells #[.int .i64 (r : Int)] 3)) (w.alloc (.cells #[.int .i64 (r : Int)] 3)).heap.size (.slice (some ⟨w.heap.size, 0, none⟩) 1 1) [r] := by
  refine ⟨_, 1, rfl, by simp, by simp, fun _ => ⟨w.heap.size, 0, rfl, by simp, fun i hi j u hu => ?_⟩⟩
  obtain rfl : i = 0 := by simp at hi; omega
  match j, hu with
  | 0, hu =>
    simp [encD] at hu
    subst hu
    simp
set_option maxRecDepth 100000 in
set_option maxHeartbeats 1000000 in
theorem div108_one (w : World) (a1 a2 : Option Addr) (n1 n2 c1 c2 : Nat) (l1 l2 : List Nat) (m1 m2 : Nat) (h1 : DlR w (.slice a1 n1 c1) l1 m1) (h2 : DlR w (.slice a2 n2 c2) l2 m2) (hb1 : l1.length ≤ 900000) (h2l : l2.length = 1) :
    Calls Tryz.prog 108 #[.slice a1 n1 c1, .slice a2 n2 c2] w (RetDd w (m1 / m2) (m1 % m2)) := by
  have HC := Lib.hid (compare133 w a1 a2 n1 n2 c1 c2 l1 l2 m1 m2 h1 h2)
  obtain ⟨b, off, rfl, hb, rfl, hcell, hm0, hm9⟩ := h2.one h2l
  have HV := Lib.hid (fun (w1 : World) (hb : Below w.heap.size w w1) => div134 w1 a1 n1 c1 l1 m1 (h1.later hb).toZ hb1 m2 hm0 (by omega))
  have HCE := Lib.hid (fun (w1 : World) (h : Below w.heap.size w w1) => (⟨(h.cell (p := ⟨b, off, none⟩) hb).trans hcell, Nat.lt_of_lt_of_le hb h.size⟩ : w1.cell? ⟨b, off, none⟩ = _ ∧ b < w1.heap.size))
  have HL := Lib.hid (fun (w1 : World) (h : Below w.heap.size w w1) => h1.later h)
  clear h1 h2 hb hcell
  by_cases hlt : m1 < m2
  · have HQ := Lib.hid (show m1 / m2 = 0 from Nat.div_eq_of_lt hlt)
    have HR := Lib.hid (show m1 % m2 = m1 from Nat.mod_eq_of_lt hlt)
    have k0 : icmp (m1 : Int) (m2 : Int) = -1 := by unfold icmp; rw [if_pos (by omega)]
    rw [k0] at HC
    rw [HQ.out, HR.out]
    clear k0 hlt hm0 hm9 HQ HR
    go_enter Tryz.func108, Tryz.ntmps108
    go_wp2_with fail
    refine HC.out.mono ?_
    rintro e4 w4 ⟨rfl, hbe⟩
    have HB := Lib.hid hbe
    clear hbe
    go_wp2_with fail
    refine bodyPost_ret (v := .tuple #[.slice none 0 0, .slice a1 n1 c1]) (by simp [results, Tryz.results108, go_sem, *]) rfl ?_
    exact ⟨_, _, _, _, _, _, _, _, rfl, DlR.nil _, HL.out _ HB.out, HB.out⟩
  · obtain ⟨x, hx⟩ : ∃ x, icmp (m1 : Int) (m2 : Int) = x := ⟨_, rfl⟩
    have k0 : decide (x < 0) = false := by rw [← hx]; unfold icmp; rw [if_neg (by omega)]; split <;> decide
    rw [hx] at HC
    obtain ⟨Q, hQ⟩ : ∃ Q, m1 / m2 = Q := ⟨_, rfl⟩
    obtain ⟨R, hR⟩ : ∃ R, m1 % m2 = R := ⟨_, rfl⟩
    rw [hQ, hR] at HV ⊢
    have hR9 : R < 1000000000 := by rw [← hR]; have := Nat.mod_lt m1 hm0; omega
    have HR9 := Lib.hid (Dg.one hR9)
    clear hx hQ hR hlt hm0 hm9 hR9
    go_enter Tryz.func108, Tryz.ntmps108
    go_wp2_with fail
    refine HC.out.mono ?_
    rintro e4 w4 ⟨rfl, hbe⟩
    have HB := Lib.hid hbe
    obtain ⟨g1, hz1⟩ := HCE.out w4 hbe
    clear hbe
    go_wp2_with fail
    refine (HV.out _ HB.out).mono ?_
    rintro e5 w5 ⟨a5, n5, c5, q5, rfl, hq5, hb5⟩
    have HQ5 := Lib.hid hq5
    replace HB := Lib.hid (HB.out.trans (hb5.mono HB.out.size))
    clear hq5 hb5 g1 hz1
    go_wp2_with fail
    have HSN := Lib.hid (sc_new w5 R)
    have HBA := Lib.hid (HB.out.alloc HB.out.size (.cells #[.int .i64 (R : Int)] 3))
    have HQA := Lib.hid (HQ5.out.later ((Below.refl w5.heap.size w5).alloc (Nat.le_refl _) (.cells #[.int .i64 (R : Int)] 3)))
    generalize hW : w5.alloc (.cells #[.int .i64 (R : Int)] 3) = w6 at *
    have HT := Lib.hid (trim111 w6 _ _ _ _ HSN.out)
    refine HT.out.mono ?_
    rintro e7 w7 ⟨rfl, rfl⟩
    go_wp2_with fail
    refine bodyPost_ret (v := .tuple #[.slice a5 n5 c5, .slice (some ⟨w5.heap.size, 0, none⟩) (trimN [R]) 1]) (by simp [results, Tryz.results108, go_sem, *]) rfl ?_
    exact ⟨_, _, _, _, _, _, _, _, rfl, HQA.out, DlR.cutz HSN.out HR9.out (val_one _ _), HBA.out⟩
end Go.Proofs.YtflchbejjofppaaGreatDoor.Nu
