/- Lemmas on the way to the law PathNeverMeets (part 9): Od -/
import Derived.Test.YtahpdkkpnkhnhaaGreatDoorPathNeverMeetsP06
import Derived.Test.YtahpdkkpnkhnhaaGreatDoorPathNeverMeetsP07
import Derived.Test.YtahpdkkpnkhnhaaGreatDoorPathNeverMeetsP08
set_option linter.unusedVariables false
set_option linter.unusedSimpArgs false

/- Walks: the law PathNeverMeets. -/
namespace Go.Proofs.YtahpdkkpnkhnhaaGreatDoor
open Go Go.Proofs Go.RowKit Go.Shelf
set_option maxRecDepth 100000 in
set_option maxHeartbeats 8000000 in
theorem never10 (w : World) (a1 a2 a3 : Option Addr) (n1 n2 n3 c1 c2 c3 : Nat) (p : Pl) (cv : List CmV) (hwd : WdR w) (hn1 : n1 ≤ 9223372036854775807) (hn2 : n2 ≤ 9223372036854775807) (hn3 : n3 ≤ 9223372036854775807)
    (hv : n1 ≤ 70 → n2 ≤ 260 → PlR w w.heap.size (.slice a1 n1 c1) (.slice a2 n2 c2) p ∧ p.ms.length = n1 ∧ p.arcs.length = n2 ∧ ∀ m ∈ p.ms, m.kind.size ≤ 9223372036854775807)
    (hx : CvR w w.heap.size (.slice a3 n3 c3) n3 cv) :
    Calls Tryz.prog 10 #[.agg #[.slice a1 n1 c1, .slice a2 n2 c2], .slice a3 n3 c3] w (Ret (.bool true) w) := by
  obtain ⟨g, hg⟩ : ∃ g, heavyB p n1 n2 [] = g := ⟨_, rfl⟩
  have HH := Lib.hid (fun (w1 : World) (hb : Below w.heap.size w w1) => heavy17 w1 a1 a2 none n1 n2 0 c1 c2 0 p [] hn1 hn2 (fun x y => ⟨(hv x y).1.later hb, (hv x y).2⟩) (Sl.nil _ _ _ _ _ _) (by simp))
  rw [hg] at HH
  have HG := Lib.hid hg
  have HWD := Lib.hid hwd
  have HV := Lib.hid hv
  have HCV := Lib.hid hx
  clear hwd hv hg hx
  have HB := Lib.hid ((Below.refl w.heap.size w).alloc (Nat.le_refl _) (.cells #[.slice a1 n1 c1, .slice a2 n2 c2] 25))
  have HX := Lib.hid (Box.new w #[.slice a1 n1 c1, .slice a2 n2 c2] 25)
  go_enter Tryz.func10, Tryz.ntmps10
  go_wp2_with fail
  refine (awake16 _ (HWD.out.later HB.out)).mono ?_
  rintro e2 w2 ⟨rfl, hb⟩
  have HB2 := Lib.hid (HB.out.trans (hb.mono HB.out.size))
  have HX2 := Lib.hid (HX.out.later hb)
  clear hb
  obtain ⟨x0, x1, xf, xz⟩ := HX2.out.v2
  go_wp2_with fail
  refine (HH.out _ HB2.out).mono ?_
  rintro e3 w3 ⟨rfl, hb⟩
  have HB3 := Lib.hid (HB2.out.trans (hb.mono HB2.out.size))
  have HX3 := Lib.hid (HX2.out.later hb)
  clear hb x0 x1 xf xz HB2 HX2
  obtain ⟨x0, x1, xf, xz⟩ := HX3.out.v2
  cases g with
  | true =>
    go_wp2_with fail
    refine (awake16 _ (HWD.out.later HB3.out)).mono ?_
    rintro e4 w4 ⟨rfl, hb⟩
    have HB4 := Lib.hid (HB3.out.trans (hb.mono HB3.out.size))
    have HX4 := Lib.hid (HX3.out.later hb)
    clear hb x0 x1 xf xz HB3 HX3
    obtain ⟨x0, x1, xf, xz⟩ := HX4.out.v2
    go_wp2_with fail
    go_ret
    exact ⟨rfl, HB4.out⟩
  | false =>
    obtain ⟨_, q2, q3, _, _⟩ := heavyB_no HG.out
    obtain ⟨hpl, hm1, hm2, _⟩ := HV.out q2 q3
    have C67 := Lib.hid (fun (w1 : World) (hb : Below w.heap.size w w1) => few67 w1 _ _ p 9 (hpl.later hb))
    have HPL := Lib.hid hpl
    have HM1 := Lib.hid hm1
    have hn70 := q2
    clear hpl hm1 hm2 q2 q3 HV HG
    obtain ⟨fb, hfb⟩ : ∃ b, fewB p 9 = b := ⟨_, rfl⟩
    have HFB := Lib.hid hfb
    rw [hfb] at C67
    clear hfb
    go_wp2_with fail
    refine (C67.out _ HB3.out).mono ?_
    rintro e5 w5 ⟨rfl, hb⟩
    have HB5 := Lib.hid (HB3.out.trans (hb.mono HB3.out.size))
    have HX5 := Lib.hid (HX3.out.later hb)
    clear hb x0 x1 xf xz HB3 HX3
    obtain ⟨x0, x1, xf, xz⟩ := HX5.out.v2
    cases fb with
    | true =>
      by_cases h12 : 12 < n3
      · have d4 : decide ((12 : Int) < (n3 : Int)) = true := decide_eq_true (by omega)
        clear h12
        go_wp2_with fail
        refine (awake16 _ (HWD.out.later HB5.out)).mono ?_
        rintro e6 w6 ⟨rfl, hb⟩
        have HB6 := Lib.hid (HB5.out.trans (hb.mono HB5.out.size))
        have HX6 := Lib.hid (HX5.out.later hb)
        clear hb x0 x1 xf xz HB5 HX5
        obtain ⟨x0, x1, xf, xz⟩ := HX6.out.v2
        go_wp2_with fail
        go_ret
        exact ⟨rfl, HB6.out⟩
      have d4 : decide ((12 : Int) < (n3 : Int)) = false := decide_eq_false (by omega)
      have hn12 : n3 ≤ 12 := by omega
      clear h12
      obtain ⟨hcs, hcl, hcf⟩ := HCV.out hn12
      have HCS := Lib.hid hcs
      have HCLn := Lib.hid hcl
      have HCF := Lib.hid hcf
      clear hcs hcl hcf HCV
      have hck : ckPlant p = 0 := by
        have h := HFB.out
        unfold fewB at h
        rw [Bool.and_eq_true] at h
        exact eq_of_beq h.2
      have HCK := Lib.hid hck
      have HOK := Lib.hid (ckPlant_ok hck)
      clear hck
      have C36 := Lib.hid (fun (w1 : World) (hb : Below w.heap.size w w1) => (empty36 w1 _ _ p (HWD.out.later hb) (HPL.out.later hb)).mono fun e w9 h => EmptyPost.st h)
      rw [HCK.out] at C36
      have hg0 := good_emp HCK.out
      obtain ⟨T0, hT0⟩ : ∃ T, emptyS p.ms.length = T := ⟨_, rfl⟩
      rw [hT0] at C36 hg0
      have HG0 := Lib.hid hg0
      have HL0 := Lib.hid (show T0.length = n1 from hg0.len.trans HM1.out)
      clear hT0 hg0
      have C22 := Lib.hid (fun (w1 : World) (hb : Below w.heap.size w w1) => fun v l (hs : Sl encI 1 w1 w1.heap.size v l) => checkPath22 w1 _ _ v p l (HPL.out.later hb) hs)
      have C27 := Lib.hid (fun (w1 : World) (hb : Below w.heap.size w w1) => fun v T (hs : Sl Sx.enc 3 w1 w1.heap.size v T) hz => checkState27 w1 _ _ v p T (HPL.out.later hb) hs hz)
      have C35 := Lib.hid (fun (w1 : World) (hb : Below w.heap.size w w1) => fun v T (hs : Sl Sx.enc 3 w1 w1.heap.size v T) hz => checkState35 w1 _ _ v p T (HWD.out.later hb) (HPL.out.later hb) hs hz)
      have C68 := Lib.hid (fun (w1 : World) (hb : Below w.heap.size w w1) => fun v T ay ny cy kd gn l (hs : Sl Sx.enc 3 w1 w1.heap.size v T) hz (hx : Sl encI 1 w1 w1.heap.size (.slice ay ny cy) l) hg h2 hk => do68 w1 _ _ v ay ny cy kd gn p T l (HWD.out.later hb) (HPL.out.later hb) hs hz hx hg h2 hk)
      go_wp2_with fail
      refine (C36.out _ HB5.out).mono ?_
      intro e7 w7 hh
      obtain ⟨v5, rfl, hs5, hb⟩ := hh.any rfl (by rw [HL0.out]; omega)
      have HS5 := Lib.hid hs5
      obtain ⟨a5, c5, rfl, _, _⟩ := hs5
      rw [HL0.out] at HS5 ⊢
      clear C36
      clear hh
      have HB7 := Lib.hid (HB5.out.trans (hb.mono HB5.out.size))
      have HX7 := Lib.hid (HX5.out.later hb)
      clear hb x0 x1 xf xz HB5 HX5
      obtain ⟨x0, x1, xf, xz⟩ := HX7.out.v2
      have HPLw := Lib.hid (HPL.out.later HB7.out)
      obtain ⟨hpm, _⟩ := HPLw.out
      obtain ⟨a1q, c1q, e1, hm1l, hmA⟩ := hpm
      obtain ⟨rfl, _, rfl⟩ : a1q = a1 ∧ p.ms.length = n1 ∧ c1q = c1 := by injection e1 with e1 e2 e3; exact ⟨e1.symm, e2.symm, e3.symm⟩
      have HMA := Lib.hid hmA
      have HCSw := Lib.hid (HCS.out.later HB7.out)
      clear hmA hm1l e1 HPLw
      go_wp2_with fail
      clear x0 x1 xf xz
      go_loopw [5, 7] (fun v i wr => ∃ k : Nat, k ≤ n3 ∧ i = .int .i64 k ∧ Below w7.heap.size w7 wr ∧ ∃ T av cw, v = .slice av n1 cw ∧ GoodS p T ∧ T.length = n1 ∧ Sl Sx.enc 3 wr wr.heap.size v T ∧ ∀ j (h : j < cv.length), j < k → cv[j].n ≤ 20 ∧ pathE p cv[j].p = 0) (fun _ i _ => n3 - (intOf i).toNat)
      case atStart => exact ⟨0, by omega, rfl, Below.refl _ _, T0, a5, c5, rfl, HG0.out, HL0.out, HS5.out, fun j _ h => absurd h (Nat.not_lt_zero _)⟩
      case round =>
        clear HS5 HG0 HL0
        obtain ⟨k, hk, rfl, hbe, T, av, cw, rfl, hgt, htl, hst, hall⟩ := hrel
        have HBE := Lib.hid (HB7.out.trans (hbe.mono HB7.out.size))
        have HBK := Lib.hid hbe
        have HXE := Lib.hid (HX7.out.later hbe)
        have HGT := Lib.hid hgt
        have HTL := Lib.hid htl
        have HST := Lib.hid hst
        have HALL := Lib.hid hall
        clear hbe hgt htl hst hall
        obtain ⟨x0, x1, xf, xz⟩ := HXE.out.v2
        by_cases hlt : k < n3
        rotate_left
        · obtain rfl : n3 = k := by omega
          generalize wr = U at *
          go_wp2_with fail
          clear x0 x1 xf xz
          go_loopw [14] (fun i wr => ∃ k : Nat, k ≤ n3 ∧ i = .int .i64 k ∧ Below U.heap.size U wr) (fun i _ => n3 - (intOf i).toNat)
          case atStart => exact ⟨0, by omega, rfl, Below.refl _ _⟩
          case round =>
            obtain ⟨k, hk, rfl, hbe⟩ := hrel
            have HB1 := Lib.hid hbe
            clear hbe
            by_cases hlt : k < n3
            rotate_left
            · obtain rfl : n3 = k := by omega
              go_wp2_with fail
              go_ret
              exact ⟨rfl, HBE.out.trans (HB1.out.mono HBE.out.size)⟩
            go_wp2_with fail
            generalize wr = U1 at *
            go_loopw [15] (fun i wr => ∃ q : Nat, q ≤ k ∧ i = .int .i64 q ∧ Below U.heap.size U wr) (fun i _ => k - (intOf i).toNat)
            case atStart => exact ⟨0, by omega, rfl, HB1.out⟩
            case round =>
              obtain ⟨q, hq, rfl, hbe⟩ := hrel
              have HB2 := Lib.hid hbe
              clear hbe
              by_cases hlq : q < k
              rotate_left
              · obtain rfl : k = q := by omega
                go_wp2_with fail
                go_roundw
                case rel => exact ⟨k + 1, by omega, by go_num, HB2.out⟩
                case measure => simp [intOf]; omega
              have hkc : k < cv.length := by rw [HCLn.out]; exact hlt
              have hqc : q < cv.length := by omega
              obtain ⟨as', cs', e5, _, hAs⟩ := id HCSw.out
              rw [HCLn.out] at e5
              cases e5
              obtain ⟨bs, os, rfl, hbbs, hcs⟩ := hAs (by omega)
              have hcf := HCF.out _ (List.getElem_mem hkc)
              have hcg := HCF.out _ (List.getElem_mem hqc)
              have ha1 := HALL.out k hkc hlt
              have ha2 := HALL.out q hqc (by omega)
              have HBK2 := Lib.hid (HBK.out.trans (HB2.out.mono HBK.out.size))
              have HBE2 := Lib.hid (HBE.out.trans (HB2.out.mono HBE.out.size))
              obtain ⟨_, s1, _⟩ := ((hcs k hkc).below HBK2.out hbbs).c3
              obtain ⟨_, s2, _⟩ := ((hcs q hqc).below HBK2.out hbbs).c3
              have hbsz : bs < wr.heap.size := Nat.lt_of_lt_of_le hbbs HBK2.out.size
              clear hcs hAs
              generalize cv[k] = cm at *
              generalize cv[q] = dm at *
              obtain ⟨kd, ay, ny, cy, gk, lk⟩ := cm
              obtain ⟨kd', az, nz, cz, gz, lz⟩ := dm
              dsimp only at s1 s2 ha1 ha2
              have hlk := hcf.p (by have := ha1.1; dsimp only; omega)
              have hlz := hcg.p (by have := ha2.1; dsimp only; omega)
              dsimp only at hlk hlz
              have HLK := Lib.hid hlk
              have HLZ := Lib.hid hlz
              have hlkl : lk.length = ny := by obtain ⟨_, _, e, _⟩ := id hlk; injection e with e1 e2 e3; exact e2.symm
              have hny20 : ny ≤ 20 := ha1.1
              have hpk := PaV.of ha1.2
              have hpz := PaV.of ha2.2
              have hsa := fun (y : Int) h1 h2 h3 h4 => set_apart HGT.out.v HGT.out.one hpk hpz h1 h2 (y := y) h3 h4
              have hik : ∀ y ∈ lk, inN T.length y = true := fun y hy => by
                obtain ⟨i, hi, rfl⟩ := mem_getD hy
                obtain ⟨n1', n2'⟩ := hpk.nat hi
                rw [n1', HGT.out.len]
                unfold inN; simp only [Bool.and_eq_true, decide_eq_true_eq]; omega
              have hiz : ∀ y ∈ lz, inN T.length y = true := fun y hy => by
                obtain ⟨i, hi, rfl⟩ := mem_getD hy
                obtain ⟨n1', n2'⟩ := hpz.nat hi
                rw [n1', HGT.out.len]
                unfold inN; simp only [Bool.and_eq_true, decide_eq_true_eq]; omega
              have K40 := Lib.hid (fun (w1 : World) (hb : Below w.heap.size w w1) => sameInts40 _ _ lk lz w1 (hlk.later hb) (hlz.later hb))
              have K47 := Lib.hid (fun (w1 : World) (hb : Below w.heap.size w w1) (hs : Sl Sx.enc 3 w1 w1.heap.size (.slice av n1 cw) T) => isSet47 w1 _ _ T lk hs (hlk.later hb) hik)
              have K48 := Lib.hid (fun (w1 : World) (hb : Below w.heap.size w w1) (hs : Sl Sx.enc 3 w1 w1.heap.size (.slice av n1 cw) T) => isSet47 w1 _ _ T lz hs (hlz.later hb) hiz)
              have K24 := Lib.hid (fun (w1 : World) (hb : Below w.heap.size w w1) (x : Int) => in24 _ lz x w1 (hlz.later hb))
              have HSA := Lib.hid hsa
              have HLKL := Lib.hid hlkl
              clear hlk hlz hlkl hpk hpz hsa hik hiz ha1 ha2 hcf hcg
              obtain ⟨sq, hsq⟩ : ∃ b, decide (lk = lz) = b := ⟨_, rfl⟩
              obtain ⟨s3, hs3⟩ : ∃ b, setB T lk = b := ⟨_, rfl⟩
              obtain ⟨s4, hs4⟩ : ∃ b, setB T lz = b := ⟨_, rfl⟩
              rw [hsq] at K40
              rw [hs3] at K47
              rw [hs4] at K48
              have HSQ := Lib.hid hsq
              have HS3 := Lib.hid hs3
              have HS4 := Lib.hid hs4
              clear hsq hs3 hs4
              go_wp2_with fail
              refine wp_region_later (by kernel_rfl) (by kernel_rfl) ?_
              repeat go_big_quiet_step (fail)
              refine wpQuiet_nil ?_
              rintro w6 ⟨⟨_, hb⟩, rfl⟩
              have HB3 := Lib.hid (HB2.out.trans (hb.mono HB2.out.size))
              have HBE3 := Lib.hid (HBE2.out.trans (hb.mono HBE2.out.size))
              clear hb s1 s2 hbsz
              go_wp2_with fail
              refine (K40.out _ HBE3.out).mono ?_
              rintro e7 w7 ⟨rfl, hb⟩
              have HB4 := Lib.hid (HB3.out.trans (hb.mono HB3.out.size))
              have HBE4 := Lib.hid (HBE3.out.trans (hb.mono HBE3.out.size))
              clear hb
              cases sq with
              | true =>
                go_wp2_with fail
                go_roundw
                case rel => exact ⟨q + 1, by omega, by go_num, HB4.out⟩
                case measure => simp [intOf]; omega
              | false =>
                go_wp2_with fail
                refine (K47.out _ HBE4.out (HST.out.later HB4.out)).mono ?_
                rintro e8 w8 ⟨rfl, hb⟩
                have HB5 := Lib.hid (HB4.out.trans (hb.mono HB4.out.size))
                have HBE5 := Lib.hid (HBE4.out.trans (hb.mono HBE4.out.size))
                clear hb
                cases s3 with
                | false =>
                  go_wp2_with fail
                  go_roundw
                  case rel => exact ⟨q + 1, by omega, by go_num, HB5.out⟩
                  case measure => simp [intOf]; omega
                | true =>
                  go_wp2_with fail
                  refine (K48.out _ HBE5.out (HST.out.later HB5.out)).mono ?_
                  rintro e9 w9 ⟨rfl, hb⟩
                  have HB6 := Lib.hid (HB5.out.trans (hb.mono HB5.out.size))
                  have HBE6 := Lib.hid (HBE5.out.trans (hb.mono HBE5.out.size))
                  clear hb
                  cases s4 with
                  | false =>
                    go_wp2_with fail
                    go_roundw
                    case rel => exact ⟨q + 1, by omega, by go_num, HB6.out⟩
                    case measure => simp [intOf]; omega
                  | true =>
                    go_wp2_with fail
                    generalize wr = U2 at *
                    go_loopw [18] (fun i wr => ∃ z : Nat, z ≤ ny ∧ i = .int .i64 z ∧ Below w9.heap.size w9 wr) (fun i _ => ny - (intOf i).toNat)
                    case atStart => exact ⟨0, by omega, rfl, Below.refl _ _⟩
                    case round =>
                      obtain ⟨z, hz, rfl, hbe⟩ := hrel
                      have HB7 := Lib.hid (HB6.out.trans (hbe.mono HB6.out.size))
                      have HBE7 := Lib.hid (HBE6.out.trans (hbe.mono HBE6.out.size))
                      have HB79 := Lib.hid hbe
                      clear hbe
                      by_cases hlz : z < ny
                      rotate_left
                      · obtain rfl : ny = z := by omega
                        go_wp2_with fail
                        go_roundw
                        case rel => exact ⟨q + 1, by omega, by go_num, HB7.out⟩
                        case measure => simp [intOf]; omega
                      have hzl : z < lk.length := by rw [HLKL.out]; exact hlz
                      obtain ⟨a', c', e5, _, hA3⟩ := id HLK.out
                      rw [HLKL.out] at e5
                      cases e5
                      obtain ⟨by_, oy, rfl, hby, hcy⟩ := hA3 (by rw [HLKL.out]; omega)
                      have l1 := ((hcy z hzl).below HBE7.out hby).c1
                      rw [Nat.mul_one] at l1
                      have hbyz : by_ < wr.heap.size := Nat.lt_of_lt_of_le hby HBE7.out.size
                      have hno : lz.contains lk[z] = false := by
                        cases hq : lz.contains lk[z] with
                        | false => rfl
                        | true =>
                          have := HSA.out lk[z] HS3.out HS4.out (List.getElem_mem hzl) (by simpa using hq)
                          have h9 := HSQ.out
                          rw [decide_eq_false_iff_not] at h9
                          exact absurd this h9
                      have K24z := Lib.hid (fun (w1 : World) (hb : Below w.heap.size w w1) => K24.out w1 hb lk[z])
                      rw [hno] at K24z
                      clear hno hcy hA3
                      generalize lk[z] = lx at *
                      go_wp2_with fail
                      refine (K24z.out _ HBE7.out).mono ?_
                      rintro e10 w10 ⟨rfl, rfl⟩
                      go_wp2_with fail
                      go_roundw
                      case rel => exact ⟨z + 1, by omega, by go_num, HB79.out⟩
                      case measure => simp [intOf]; omega
        have hkc : k < cv.length := by rw [HCLn.out]; exact hlt
        obtain ⟨as', cs', e5, _, hAs⟩ := id HCSw.out
        rw [HCLn.out] at e5
        cases e5
        obtain ⟨bs, os, rfl, hbbs, hcs⟩ := hAs (by omega)
        have hcf := HCF.out _ (List.getElem_mem hkc)
        have HNX := Lib.hid (fun (h1 : cv[k].n ≤ 20) (h2 : pathE p cv[k].p = 0) (j : Nat) (h : j < cv.length) (hj : j < k + 1) => show cv[j].n ≤ 20 ∧ pathE p cv[j].p = 0 from by
          rcases Nat.lt_or_ge j k with h3 | h3
          · exact HALL.out j h h3
          · obtain rfl : j = k := by omega
            exact ⟨h1, h2⟩)
        have d1 := hcs k hkc
        clear hcs hAs
        generalize cv[k] = cm at *
        obtain ⟨kd, ay, ny, cy, gk, lk⟩ := cm
        obtain ⟨hkd, hny, hgk, hlk⟩ := hcf
        dsimp only at hkd hny hgk hlk HNX
        have HLK := Lib.hid hlk
        obtain ⟨s0, s1, s2⟩ := (d1.below HBK.out hbbs).c3
        dsimp only at s0 s1 s2
        clear d1 hlk
        have hbsz : bs < wr.heap.size := Nat.lt_of_lt_of_le hbbs HBK.out.size
        have hb : Below wr.heap.size wr (wr.alloc (.cells #[.int .u8 kd, .slice ay ny cy, .string gk] 97)) := (Below.refl _ _).alloc (Nat.le_refl _) _
        have HT := Lib.hid (Box.new wr #[.int .u8 kd, .slice ay ny cy, .string gk] 97)
        obtain ⟨W3, hW3⟩ : ∃ W, wr.alloc (.cells #[.int .u8 kd, .slice ay ny cy, .string gk] 97) = W := ⟨_, rfl⟩
        rw [hW3] at hb HT
        have HXR := HXE
        obtain ⟨x30, x31, x3f, x3z⟩ := HXR.out.v2
        have HB8 := Lib.hid (HBE.out.trans (hb.mono HBE.out.size))
        have HX8 := Lib.hid (HXE.out.later hb)
        have HSTn := Lib.hid (HST.out.later hb)
        clear HST
        have HST := HSTn
        clear HSTn
        have HBKn := Lib.hid (HBK.out.trans (hb.mono HBK.out.size))
        clear HBK
        have HBK := HBKn
        clear HBKn
        clear hb x0 x1 xf xz HBE HXE
        obtain ⟨x0, x1, xf, xz⟩ := HX8.out.v2
        obtain ⟨x30, x31, x3f, x3z⟩ := HXR.out.v2
        clear HXR
        obtain ⟨t0, t1, t2, tf, tz⟩ := HT.out.v3
        by_cases h20 : 20 < ny
        · have d5 : decide ((20 : Int) < (ny : Int)) = true := decide_eq_true (by omega)
          clear h20
          go_wp2_with fail
          go_ret
          exact ⟨rfl, HB8.out⟩
        have d5 : decide ((20 : Int) < (ny : Int)) = false := decide_eq_false (by omega)
        by_cases h40 : 40 < gk.size
        · have d6 : decide ((40 : Int) < (gk.size : Int)) = true := decide_eq_true (by omega)
          clear h40 h20
          go_wp2_with fail
          go_ret
          exact ⟨rfl, HB8.out⟩
        have d6 : decide ((40 : Int) < (gk.size : Int)) = false := decide_eq_false (by omega)
        have hlk := HLK.out (by omega)
        have hlkl : lk.length = ny := by obtain ⟨_, _, e, _⟩ := id hlk; injection e with e1 e2 e3; exact e2.symm
        have HLKS := Lib.hid hlk
        have HLKL := Lib.hid hlkl
        have hny20 : ny ≤ 20 := by omega
        clear hlk hlkl HLK h20 h40
        obtain ⟨ep, hep⟩ : ∃ c, pathE p lk = c := ⟨_, rfl⟩
        have K22 := Lib.hid (fun (w1 : World) (hb : Below w.heap.size w w1) => C22.out w1 hb _ lk (HLKS.out.later hb))
        rw [hep] at K22 HNX
        have HEP := Lib.hid hep
        clear hep
        go_wp2_with fail
        refine (K22.out _ HB8.out).mono ?_
        rintro e9 w9 ⟨rfl, hb⟩
        have HB9 := Lib.hid (HB8.out.trans (hb.mono HB8.out.size))
        have HX9 := Lib.hid (HX8.out.later hb)
        have HT9 := Lib.hid (HT.out.later hb)
        have HSTn := Lib.hid (HST.out.later hb)
        clear HST
        have HST := HSTn
        clear HSTn
        have HBKn := Lib.hid (HBK.out.trans (hb.mono HBK.out.size))
        clear HBK
        have HBK := HBKn
        clear HBKn
        clear hb x0 x1 xf xz t0 t1 t2 tf tz HB8 HX8 HT
        obtain ⟨x0, x1, xf, xz⟩ := HX9.out.v2
        obtain ⟨t0, t1, t2, tf, tz⟩ := HT9.out.v3
        clear s0 s1 s2 x30 x31 x3f x3z hbsz
        by_cases h1 : ep = 0
        rotate_left
        · have k1 : (ep != 0) = true := by simpa using h1
          clear h1
          go_wp2_with fail
          go_ret
          exact ⟨rfl, HB9.out⟩
        subst h1
        have HNY := Lib.hid (HNX.out hny20 rfl)
        clear HNX
        have hpa := PaV.of HEP.out
        have HPA := Lib.hid hpa
        have h2l := hpa.two
        have hok5 : kd % 5 < 5 := by omega
        have HGD := Lib.hid (fun h => good_do hok5 HGT.out HEP.out hgk h)
        obtain ⟨r, hr⟩ : ∃ r, kd % 5 = r := ⟨_, rfl⟩
        have htm : Int.tmod (kd : Int) 5 = (r : Int) := by rw [Int.tmod_eq_emod_of_nonneg (by omega)]; omega
        have hwr : IntKind.u8.wrap (r : Int) = (r : Int) := by
          match r, (by omega : r < 5) with
          | 0, _ => rfl
          | 1, _ => rfl
          | 2, _ => rfl
          | 3, _ => rfl
          | 4, _ => rfl
        have hr5 : r < 5 := by omega
        have K68 := Lib.hid (fun (w1 : World) (hb : Below w.heap.size w w1) => fun (hs : Sl Sx.enc 3 w1 w1.heap.size (.slice av n1 cw) T) => C68.out w1 hb _ T ay ny cy kd gk lk hs HGT.out.sz (HLKS.out.later hb) hgk h2l hkd)
        rw [hr] at K68 HGD
        clear hr hok5 hpa h2l
        obtain ⟨E, hE⟩ : ∃ c, doE p T lk gk r = c := ⟨_, rfl⟩
        obtain ⟨S, hS⟩ : ∃ c, doTo p T lk gk r = c := ⟨_, rfl⟩
        rw [hE, hS] at K68
        rw [hE, hS] at HGD
        clear hE hS
        by_cases h1 : E = 0
        rotate_left
        · have HE0 := Lib.hid h1
          have k0 : (E == 0) = false := beq_eq_false_iff_ne.2 h1
          have k1 : (E != 0) = true := by simpa using h1
          clear h1
          go_wp2_with fail
          refine (K68.out _ HB9.out HST.out).mono ?_
          intro e10 w10 hh
          obtain ⟨a6, c6, rfl, hb⟩ := hh.bad HE0.out
          clear hh
          have HB10 := Lib.hid (HB9.out.trans (hb.mono HB9.out.size))
          have HX10 := Lib.hid (HX9.out.later hb)
          have HT10 := Lib.hid (HT9.out.later hb)
          have HSTn := Lib.hid (HST.out.later hb)
          clear HST
          have HST := HSTn
          clear HSTn
          have HBKn := Lib.hid (HBK.out.trans (hb.mono HBK.out.size))
          clear HBK
          have HBK := HBKn
          clear HBKn
          clear hb x0 x1 xf xz t0 t1 t2 tf tz HB9 HX9 HT9
          obtain ⟨x0, x1, xf, xz⟩ := HX10.out.v2
          obtain ⟨t0, t1, t2, tf, tz⟩ := HT10.out.v3
          go_wp2_with fail
          go_roundw
          case rel => exact ⟨k + 1, by omega, by go_num, HBK.out, T, av, cw, rfl, HGT.out, HTL.out, HST.out, HNY.out⟩
          case measure => simp [intOf]; omega
        subst h1
        obtain ⟨hgs, hso⟩ := HGD.out rfl
        have HGS := Lib.hid hgs
        have HSO := Lib.hid hso
        have HLS := Lib.hid (show S.length = n1 from hgs.len.trans HM1.out)
        clear hgs hso HGD
        go_wp2_with fail
        refine (K68.out _ HB9.out HST.out).mono ?_
        intro e11 w11 hh
        obtain ⟨v6, rfl, hs6, hb⟩ := hh.any rfl (by rw [HLS.out]; omega)
        have HS6 := Lib.hid hs6
        obtain ⟨a6, c6, rfl, _, _⟩ := hs6
        rw [HLS.out] at HS6 ⊢
        clear hh
        have HB11 := Lib.hid (HB9.out.trans (hb.mono HB9.out.size))
        have HX11 := Lib.hid (HX9.out.later hb)
        have HT11 := Lib.hid (HT9.out.later hb)
        have HSTn := Lib.hid (HST.out.later hb)
        clear HST
        have HST := HSTn
        clear HSTn
        have HBKn := Lib.hid (HBK.out.trans (hb.mono HBK.out.size))
        clear HBK
        have HBK := HBKn
        clear HBKn
        clear hb x0 x1 xf xz t0 t1 t2 tf tz HB9 HX9 HT9
        obtain ⟨x0, x1, xf, xz⟩ := HX11.out.v2
        obtain ⟨t0, t1, t2, tf, tz⟩ := HT11.out.v3
        have K27 := Lib.hid (fun (w1 : World) (hb : Below w.heap.size w w1) => fun v (hs : Sl Sx.enc 3 w1 w1.heap.size v S) => C27.out w1 hb v S hs HGS.out.sz)
        have K35 := Lib.hid (fun (w1 : World) (hb : Below w.heap.size w w1) => fun v (hs : Sl Sx.enc 3 w1 w1.heap.size v S) => C35.out w1 hb v S hs HGS.out.sz)
        rw [HGS.out.ck] at K27 K35
        go_wp2_with fail
        refine (K27.out _ HB11.out _ HS6.out).mono ?_
        rintro e12 w12 ⟨rfl, hb⟩
        have HB12 := Lib.hid (HB11.out.trans (hb.mono HB11.out.size))
        have HX12 := Lib.hid (HX11.out.later hb)
        have HT12 := Lib.hid (HT11.out.later hb)
        have HSTn := Lib.hid (HST.out.later hb)
        clear HST
        have HST := HSTn
        clear HSTn
        have HS6n := Lib.hid (HS6.out.later hb)
        clear HS6
        have HS6 := HS6n
        clear HS6n
        have HBKn := Lib.hid (HBK.out.trans (hb.mono HBK.out.size))
        clear HBK
        have HBK := HBKn
        clear HBKn
        clear hb x0 x1 xf xz t0 t1 t2 tf tz HB11 HX11 HT11
        obtain ⟨x0, x1, xf, xz⟩ := HX12.out.v2
        obtain ⟨t0, t1, t2, tf, tz⟩ := HT12.out.v3
        go_wp2_with fail
        refine (K35.out _ HB12.out _ HS6.out).mono ?_
        rintro e13 w13 ⟨rfl, hb⟩
        have HB13 := Lib.hid (HB12.out.trans (hb.mono HB12.out.size))
        have HX13 := Lib.hid (HX12.out.later hb)
        have HT13 := Lib.hid (HT12.out.later hb)
        have HSTn := Lib.hid (HST.out.later hb)
        clear HST
        have HST := HSTn
        clear HSTn
        have HS6n := Lib.hid (HS6.out.later hb)
        clear HS6
        have HS6 := HS6n
        clear HS6n
        have HBKn := Lib.hid (HBK.out.trans (hb.mono HBK.out.size))
        clear HBK
        have HBK := HBKn
        clear HBKn
        clear hb x0 x1 xf xz t0 t1 t2 tf tz HB12 HX12 HT12
        obtain ⟨x0, x1, xf, xz⟩ := HX13.out.v2
        obtain ⟨t0, t1, t2, tf, tz⟩ := HT13.out.v3
        clear K27 K35 K68 K22
        go_wp2_with fail
        clear x0 x1 xf xz t0 t1 t2 tf tz
        generalize wr = U at *
        go_loopw [11] (fun i wr => ∃ m : Nat, m ≤ n1 ∧ i = .int .i64 m ∧ Below w13.heap.size w13 wr) (fun i _ => n1 - (intOf i).toNat)
        case atStart => exact ⟨0, by omega, rfl, Below.refl _ _⟩
        case round =>
          obtain ⟨m, hm, rfl, hbe⟩ := hrel
          have HBM := Lib.hid (HB13.out.trans (hbe.mono HB13.out.size))
          have HBN := Lib.hid (HBK.out.trans (hbe.mono HBK.out.size))
          have HBV := Lib.hid hbe
          have HXM := Lib.hid (HX13.out.later hbe)
          have HTM := Lib.hid (HT13.out.later hbe)
          clear hbe
          obtain ⟨x0, x1, xf, xz⟩ := HXM.out.v2
          obtain ⟨t0, t1, t2, tf, tz⟩ := HTM.out.v3
          by_cases hlm : m < n1
          rotate_left
          · obtain rfl : n1 = m := by omega
            go_wp2_with fail
            go_roundw
            case rel => exact ⟨k + 1, by omega, by go_num, HBN.out, S, a6, c6, rfl, HGS.out, HLS.out, HS6.out.later HBV.out, HNY.out⟩
            case measure => simp [intOf]; omega
          have hmt : m < T.length := by rw [HTL.out]; exact hlm
          have hms : m < S.length := by rw [HLS.out]; exact hlm
          have hmm : m < p.ms.length := by rw [HM1.out]; exact hlm
          obtain ⟨a', c', e5, _, hA1⟩ := id HST.out
          rw [HTL.out] at e5
          cases e5
          obtain ⟨bt, ot, rfl, hbbt, hct⟩ := hA1 (by omega)
          obtain ⟨a', c', e5, _, hA2⟩ := id HS6.out
          rw [HLS.out] at e5
          cases e5
          obtain ⟨bc, oc, rfl, hbbc, hcc⟩ := hA2 (by omega)
          obtain ⟨bm, om, rfl, hbbm, hcm⟩ := HMA.out (by omega)
          have hso := HSO.out m hmt
          have e1 : sAt T m = T[m] := stGet hmt
          have e2 : sAt S m = S[m] := stGet hms
          have e3 : kdA p (m : Int) = p.ms[m].kind := kdA_nat hmm
          obtain ⟨h1, h2, h3, h4⟩ := hso
          rw [e1, e2] at h1 h2 h3 h4
          rw [e3] at h3
          have DT := Lib.hid (hct m hmt)
          have DS := Lib.hid (hcc m hms)
          have DM := Lib.hid (hcm m hmm)
          clear hct hcc hcm hA1 hA2 e1 e2 e3
          generalize T[m] = tx at *
          generalize S[m] = sx at *
          generalize p.ms[m] = mx at *
          obtain ⟨r1, f1, g1⟩ := tx
          obtain ⟨r2, f2, g2⟩ := sx
          obtain ⟨sm, tm⟩ := mx
          dsimp only at h1 h2 h3 h4
          have K24 := Lib.hid (fun (w1 : World) (hb : Below w.heap.size w w1) => in24 _ lk (m : Int) w1 (HLKS.out.later hb))
          have K42 := Lib.hid (fun w1 => isConveyor42 sm w1)
          obtain ⟨on, hon⟩ : ∃ q, lk.contains (m : Int) = q := ⟨_, rfl⟩
          obtain ⟨q, hq⟩ : ∃ q, cvB sm = q := ⟨_, rfl⟩
          rw [hon] at K24
          rw [hq] at K42 h3
          have h1 : g2.toList ≠ g1.toList → on = true := fun h => by rw [← hon]; simpa using h1 h
          have h4 : eqX ⟨r2, f2, g2⟩ ⟨r1, f1, g1⟩ = true ∨ on = true ∨ (r = 3 ∧ (m : Int) ∈ upL T (lk.getD 1 0) T.length) := by
            rcases h4 with h | h | h
            · exact .inl h
            · refine .inr (.inl ?_)
              rw [← hon]; simpa using h
            · exact .inr (.inr h)
          have HH1 := Lib.hid h1
          have HH2 := Lib.hid h2
          have HH3 := Lib.hid h3
          have HH4 := Lib.hid h4
          clear h1 h2 h3 h4 hon hq hmt hms hmm
          obtain ⟨q0, q1, q2⟩ := (DT.out.below HBV.out hbbt).c3
          obtain ⟨u0, u1, u2⟩ := (DS.out.below HBV.out hbbc).c3
          obtain ⟨m0, m1⟩ := (DM.out.below HBN.out hbbm).c2
          have hbtz := Nat.lt_of_lt_of_le hbbt HBV.out.size
          have hbcz := Nat.lt_of_lt_of_le hbbc HBV.out.size
          have hbmz := Nat.lt_of_lt_of_le hbbm HBN.out.size
          dsimp only at q0 q1 q2 u0 u1 u2 m0 m1
          go_wp2_with fail
          refine (K24.out _ HBM.out).mono ?_
          rintro ex wx ⟨rfl, rfl⟩
          go_wp2_with fail
          refine (K42.out _).mono ?_
          rintro ex wx ⟨rfl, rfl⟩
          obtain ⟨b1, hb1⟩ : ∃ b, (g2.toList == g1.toList) = b := ⟨_, rfl⟩
          go_wp2_with fail
          refine wp_region_later (by kernel_rfl) (by kernel_rfl) ?_
          repeat go_big_quiet_step (fail)
          refine wpQuiet_nil ?_
          rintro w14 ⟨⟨_, hb⟩, rfl⟩
          clear q0 q1 q2 u0 u1 u2 m0 m1 hbtz hbcz hbmz
          have HB14 := Lib.hid (HBM.out.trans (hb.mono HBM.out.size))
          have HX14 := Lib.hid (HXM.out.later hb)
          have HT14 := Lib.hid (HTM.out.later hb)
          have HBVn := Lib.hid (HBV.out.trans (hb.mono HBV.out.size))
          clear HBV
          have HBV := HBVn
          clear HBVn
          have HBNn := Lib.hid (HBN.out.trans (hb.mono HBN.out.size))
          clear HBN
          have HBN := HBNn
          clear HBNn
          clear hb x0 x1 xf xz t0 t1 t2 tf tz HBM HXM HTM
          obtain ⟨x0, x1, xf, xz⟩ := HX14.out.v2
          obtain ⟨t0, t1, t2, tf, tz⟩ := HT14.out.v3
          obtain ⟨q0, q1, q2⟩ := (DT.out.below HBV.out hbbt).c3
          obtain ⟨u0, u1, u2⟩ := (DS.out.below HBV.out hbbc).c3
          obtain ⟨m0, m1⟩ := (DM.out.below HBN.out hbbm).c2
          have hbtz := Nat.lt_of_lt_of_le hbbt HBV.out.size
          have hbcz := Nat.lt_of_lt_of_le hbbc HBV.out.size
          have hbmz := Nat.lt_of_lt_of_le hbbm HBN.out.size
          dsimp only at q0 q1 q2 u0 u1 u2 m0 m1
          cases b1 with
          | true =>
            obtain ⟨e1, he1⟩ : ∃ b, (r2 == r1) = b := ⟨_, rfl⟩
            obtain ⟨e2, he2⟩ : ∃ b, (f2 == f1) = b := ⟨_, rfl⟩
            have HEQ := Lib.hid (show eqX ⟨r2, f2, g2⟩ ⟨r1, f1, g1⟩ = (e1 && (e2 && true)) from by rw [← he1, ← he2, ← hb1]; rfl)
            cases e1 with
            | true =>
              cases e2 with
              | true =>
                go_wp2_with fail
                refine wp_region_later (by kernel_rfl) (by kernel_rfl) ?_
                repeat go_big_quiet_step (fail)
                refine wpQuiet_nil ?_
                rintro w15 ⟨⟨_, hb⟩, rfl⟩
                clear q0 q1 q2 u0 u1 u2 m0 m1 hbtz hbcz hbmz
                have HB15 := Lib.hid (HB14.out.trans (hb.mono HB14.out.size))
                have HX15 := Lib.hid (HX14.out.later hb)
                have HT15 := Lib.hid (HT14.out.later hb)
                have HBVn := Lib.hid (HBV.out.trans (hb.mono HBV.out.size))
                clear HBV
                have HBV := HBVn
                clear HBVn
                have HBNn := Lib.hid (HBN.out.trans (hb.mono HBN.out.size))
                clear HBN
                have HBN := HBNn
                clear HBNn
                clear hb x0 x1 xf xz t0 t1 t2 tf tz HB14 HX14 HT14
                obtain ⟨x0, x1, xf, xz⟩ := HX15.out.v2
                obtain ⟨t0, t1, t2, tf, tz⟩ := HT15.out.v3
                go_wp2_with fail
                go_roundw
                case rel => exact ⟨m + 1, by omega, by go_num, HBV.out⟩
                case measure => simp [intOf]; omega
              | false =>
                cases on with
                | true =>
                  go_wp2_with fail
                  refine wp_region_later (by kernel_rfl) (by kernel_rfl) ?_
                  repeat go_big_quiet_step (fail)
                  refine wpQuiet_nil ?_
                  rintro w16 ⟨⟨_, hb⟩, rfl⟩
                  clear q0 q1 q2 u0 u1 u2 m0 m1 hbtz hbcz hbmz
                  have HB16 := Lib.hid (HB14.out.trans (hb.mono HB14.out.size))
                  have HX16 := Lib.hid (HX14.out.later hb)
                  have HT16 := Lib.hid (HT14.out.later hb)
                  have HBVn := Lib.hid (HBV.out.trans (hb.mono HBV.out.size))
                  clear HBV
                  have HBV := HBVn
                  clear HBVn
                  have HBNn := Lib.hid (HBN.out.trans (hb.mono HBN.out.size))
                  clear HBN
                  have HBN := HBNn
                  clear HBNn
                  clear hb x0 x1 xf xz t0 t1 t2 tf tz HB14 HX14 HT14
                  obtain ⟨x0, x1, xf, xz⟩ := HX16.out.v2
                  obtain ⟨t0, t1, t2, tf, tz⟩ := HT16.out.v3
                  go_wp2_with fail
                  go_roundw
                  case rel => exact ⟨m + 1, by omega, by go_num, HBV.out⟩
                  case measure => simp [intOf]; omega
                | false =>
                  obtain ⟨rfl, hup⟩ : r = 3 ∧ (m : Int) ∈ upL T (lk.getD 1 0) T.length := by
                    rcases HH4.out with h | h | h
                    · rw [HEQ.out] at h; cases h
                    · cases h
                    · exact h
                  have HUP := Lib.hid hup
                  clear hup
                  have h2p := HPA.out.two
                  obtain ⟨a', c', e5, _, hA3⟩ := id HLKS.out
                  rw [HLKL.out] at e5
                  cases e5
                  rw [HLKL.out] at h2p
                  obtain ⟨by_, oy, rfl, hby, hcy⟩ := hA3 (by rw [HLKL.out]; omega)
                  have l1 := ((hcy 1 (by rw [HLKL.out]; omega)).below HB14.out hby).c1
                  rw [← getD_geI, Nat.mul_one] at l1
                  have hnx := HPA.out.nat (by rw [HLKL.out]; omega : 1 < lk.length)
                  obtain ⟨x1n, hx1n⟩ : ∃ x, (lk.getD 1 0).toNat = x := ⟨_, rfl⟩
                  rw [hx1n] at hnx
                  rw [hnx.1] at l1 HUP
                  have HXN := Lib.hid hnx.2
                  have hbyz : by_ < w14.heap.size := Nat.lt_of_lt_of_le hby HB14.out.size
                  have h1n : (1 : Int) < (ny : Int) := by omega
                  clear hnx hx1n hcy hA3
                  have HULL := Lib.hid (show (upL T x1n T.length).length ≤ 1000000000 from Nat.le_trans (upL_len _ _ _) (by rw [HTL.out]; omega))
                  have K41 := Lib.hid (fun (w1 : World) (hs : Sl Sx.enc 3 w1 w1.heap.size (.slice (some ⟨bt, ot, none⟩) n1 cw) T) => upstream41 w1 _ T x1n hs (by rw [HTL.out]; omega) (by rw [HTL.out, ← HM1.out]; exact HXN.out) (by
                    have := feeds_in HOK.out (ckState_ok HGT.out.ck).2.2.1
                    rw [HGT.out.len]; exact this))
                  have HSTq := Lib.hid (HST.out.later HBV.out)
                  generalize upL T x1n T.length = UL at *
                  go_wp2_with fail
                  refine wp_region_partG2 24 (fun i => i == 26 || (i == 27 || (i == 28 || i == 29))) _ (fun v W' => Own encI 1 3 W' 0 v UL) (fun A v => ((((A.put (some 191) v).put (some 193) (.bool true)).put (some 194) (.bool false)).put (some 195) (.bool false)).put (some 196) (.bool false)) (by kernel_rfl) (by kernel_rfl) rfl (fun v u u' h hb => h.later hb) ?_
                  apply Exists.intro
                  refine ⟨fun Y => ?_, ?_, fun wa hwa => ?_, fun v wa hwa hD => ?_, fun v w6 hb hD => ?_⟩
                  · simp only [selF, Nat.reduceBEq, Bool.not_true, Bool.not_false, Bool.and_true, Bool.and_false, Bool.or_false, Bool.or_true, Bool.false_or, Bool.true_or, Bool.false_eq_true, if_true, if_false, Nat.reduceAdd, Nat.zero_add]
                    repeat go_big_quiet_step (fail)
                    exact wpQuiet_nil rfl
                  · rfl
                  · refine ⟨41, _, ?_, (K41.out wa (HSTq.out.later hwa)).mono ?_⟩
                    · go_simp
                      first | done | rfl
                    · rintro e w6 ⟨v6, rfl, ho6, hb6⟩
                      exact ⟨v6, rfl, ho6.lower (Nat.zero_le _), hb6⟩
                  · obtain ⟨a7, c7, e7⟩ := hD.shape
                    have HSU := Lib.hid (hD.toSl encI_len HULL.out)
                    obtain ⟨ul, hul⟩ : ∃ n, UL.length = n := ⟨_, rfl⟩
                    rw [hul] at e7
                    subst e7
                    clear hul
                    have HKU := Lib.hid (fun (X : Later wa) => in24 _ UL (m : Int) X.w (HSU.out.later X.h))
                    rw [show UL.contains (m : Int) = true from by simpa using HUP.out] at HKU
                    simp only [selF, Nat.reduceBEq, Bool.not_true, Bool.not_false, Bool.and_true, Bool.and_false, Bool.or_false, Bool.or_true, Bool.false_or, Bool.true_or, Bool.false_eq_true, if_true, if_false, Nat.reduceAdd, Nat.zero_add, Act.put, List.setIfInBounds_toArray, List.set_cons_succ, List.set_cons_zero]
                    repeat go_big_quiet_step ((go_at_call 24; exact Calls.later_same (HKU.out _)))
                    exact wpQuiet_nil rfl
                  clear hD
                  clear q0 q1 q2 u0 u1 u2 m0 m1 hbtz hbcz hbmz
                  clear l1 hbyz
                  have HB17 := Lib.hid (HB14.out.trans (hb.mono HB14.out.size))
                  have HX17 := Lib.hid (HX14.out.later hb)
                  have HT17 := Lib.hid (HT14.out.later hb)
                  have HBVn := Lib.hid (HBV.out.trans (hb.mono HBV.out.size))
                  clear HBV
                  have HBV := HBVn
                  clear HBVn
                  have HBNn := Lib.hid (HBN.out.trans (hb.mono HBN.out.size))
                  clear HBN
                  have HBN := HBNn
                  clear HBNn
                  clear hb x0 x1 xf xz t0 t1 t2 tf tz HB14 HX14 HT14
                  obtain ⟨x0, x1, xf, xz⟩ := HX17.out.v2
                  obtain ⟨t0, t1, t2, tf, tz⟩ := HT17.out.v3
                  simp only [Act.put, List.setIfInBounds_toArray, List.set_cons_succ, List.set_cons_zero]
                  go_wp2_with fail
                  go_roundw
                  case rel => exact ⟨m + 1, by omega, by go_num, HBV.out⟩
                  case measure => simp [intOf]; omega
            | false =>
              cases on with
              | true =>
                go_wp2_with fail
                refine wp_region_later (by kernel_rfl) (by kernel_rfl) ?_
                repeat go_big_quiet_step (fail)
                refine wpQuiet_nil ?_
                rintro w18 ⟨⟨_, hb⟩, rfl⟩
                clear q0 q1 q2 u0 u1 u2 m0 m1 hbtz hbcz hbmz
                have HB18 := Lib.hid (HB14.out.trans (hb.mono HB14.out.size))
                have HX18 := Lib.hid (HX14.out.later hb)
                have HT18 := Lib.hid (HT14.out.later hb)
                have HBVn := Lib.hid (HBV.out.trans (hb.mono HBV.out.size))
                clear HBV
                have HBV := HBVn
                clear HBVn
                have HBNn := Lib.hid (HBN.out.trans (hb.mono HBN.out.size))
                clear HBN
                have HBN := HBNn
                clear HBNn
                clear hb x0 x1 xf xz t0 t1 t2 tf tz HB14 HX14 HT14
                obtain ⟨x0, x1, xf, xz⟩ := HX18.out.v2
                obtain ⟨t0, t1, t2, tf, tz⟩ := HT18.out.v3
                go_wp2_with fail
                go_roundw
                case rel => exact ⟨m + 1, by omega, by go_num, HBV.out⟩
                case measure => simp [intOf]; omega
              | false =>
                obtain ⟨rfl, hup⟩ : r = 3 ∧ (m : Int) ∈ upL T (lk.getD 1 0) T.length := by
                  rcases HH4.out with h | h | h
                  · rw [HEQ.out] at h; cases h
                  · cases h
                  · exact h
                have HUP := Lib.hid hup
                clear hup
                have h2p := HPA.out.two
                obtain ⟨a', c', e5, _, hA3⟩ := id HLKS.out
                rw [HLKL.out] at e5
                cases e5
                rw [HLKL.out] at h2p
                obtain ⟨by_, oy, rfl, hby, hcy⟩ := hA3 (by rw [HLKL.out]; omega)
                have l1 := ((hcy 1 (by rw [HLKL.out]; omega)).below HB14.out hby).c1
                rw [← getD_geI, Nat.mul_one] at l1
                have hnx := HPA.out.nat (by rw [HLKL.out]; omega : 1 < lk.length)
                obtain ⟨x1n, hx1n⟩ : ∃ x, (lk.getD 1 0).toNat = x := ⟨_, rfl⟩
                rw [hx1n] at hnx
                rw [hnx.1] at l1 HUP
                have HXN := Lib.hid hnx.2
                have hbyz : by_ < w14.heap.size := Nat.lt_of_lt_of_le hby HB14.out.size
                have h1n : (1 : Int) < (ny : Int) := by omega
                clear hnx hx1n hcy hA3
                have HULL := Lib.hid (show (upL T x1n T.length).length ≤ 1000000000 from Nat.le_trans (upL_len _ _ _) (by rw [HTL.out]; omega))
                have K41 := Lib.hid (fun (w1 : World) (hs : Sl Sx.enc 3 w1 w1.heap.size (.slice (some ⟨bt, ot, none⟩) n1 cw) T) => upstream41 w1 _ T x1n hs (by rw [HTL.out]; omega) (by rw [HTL.out, ← HM1.out]; exact HXN.out) (by
                  have := feeds_in HOK.out (ckState_ok HGT.out.ck).2.2.1
                  rw [HGT.out.len]; exact this))
                have HSTq := Lib.hid (HST.out.later HBV.out)
                generalize upL T x1n T.length = UL at *
                go_wp2_with fail
                refine wp_region_partG2 24 (fun i => i == 26 || (i == 27 || (i == 28 || i == 29))) _ (fun v W' => Own encI 1 3 W' 0 v UL) (fun A v => ((((A.put (some 191) v).put (some 193) (.bool true)).put (some 194) (.bool false)).put (some 195) (.bool false)).put (some 196) (.bool false)) (by kernel_rfl) (by kernel_rfl) rfl (fun v u u' h hb => h.later hb) ?_
                apply Exists.intro
                refine ⟨fun Y => ?_, ?_, fun wa hwa => ?_, fun v wa hwa hD => ?_, fun v w6 hb hD => ?_⟩
                · simp only [selF, Nat.reduceBEq, Bool.not_true, Bool.not_false, Bool.and_true, Bool.and_false, Bool.or_false, Bool.or_true, Bool.false_or, Bool.true_or, Bool.false_eq_true, if_true, if_false, Nat.reduceAdd, Nat.zero_add]
                  repeat go_big_quiet_step (fail)
                  exact wpQuiet_nil rfl
                · rfl
                · refine ⟨41, _, ?_, (K41.out wa (HSTq.out.later hwa)).mono ?_⟩
                  · go_simp
                    first | done | rfl
                  · rintro e w6 ⟨v6, rfl, ho6, hb6⟩
                    exact ⟨v6, rfl, ho6.lower (Nat.zero_le _), hb6⟩
                · obtain ⟨a7, c7, e7⟩ := hD.shape
                  have HSU := Lib.hid (hD.toSl encI_len HULL.out)
                  obtain ⟨ul, hul⟩ : ∃ n, UL.length = n := ⟨_, rfl⟩
                  rw [hul] at e7
                  subst e7
                  clear hul
                  have HKU := Lib.hid (fun (X : Later wa) => in24 _ UL (m : Int) X.w (HSU.out.later X.h))
                  rw [show UL.contains (m : Int) = true from by simpa using HUP.out] at HKU
                  simp only [selF, Nat.reduceBEq, Bool.not_true, Bool.not_false, Bool.and_true, Bool.and_false, Bool.or_false, Bool.or_true, Bool.false_or, Bool.true_or, Bool.false_eq_true, if_true, if_false, Nat.reduceAdd, Nat.zero_add, Act.put, List.setIfInBounds_toArray, List.set_cons_succ, List.set_cons_zero]
                  repeat go_big_quiet_step ((go_at_call 24; exact Calls.later_same (HKU.out _)))
                  exact wpQuiet_nil rfl
                clear hD
                clear q0 q1 q2 u0 u1 u2 m0 m1 hbtz hbcz hbmz
                clear l1 hbyz
                have HB19 := Lib.hid (HB14.out.trans (hb.mono HB14.out.size))
                have HX19 := Lib.hid (HX14.out.later hb)
                have HT19 := Lib.hid (HT14.out.later hb)
                have HBVn := Lib.hid (HBV.out.trans (hb.mono HBV.out.size))
                clear HBV
                have HBV := HBVn
                clear HBVn
                have HBNn := Lib.hid (HBN.out.trans (hb.mono HBN.out.size))
                clear HBN
                have HBN := HBNn
                clear HBNn
                clear hb x0 x1 xf xz t0 t1 t2 tf tz HB14 HX14 HT14
                obtain ⟨x0, x1, xf, xz⟩ := HX19.out.v2
                obtain ⟨t0, t1, t2, tf, tz⟩ := HT19.out.v3
                simp only [Act.put, List.setIfInBounds_toArray, List.set_cons_succ, List.set_cons_zero]
                go_wp2_with fail
                go_roundw
                case rel => exact ⟨m + 1, by omega, by go_num, HBV.out⟩
                case measure => simp [intOf]; omega
          | false =>
            have hne : g2.toList ≠ g1.toList := by simpa using hb1
            obtain rfl := HH1.out hne
            obtain ⟨b2, hb2⟩ : ∃ b, (g1.toList == []) = b := ⟨_, rfl⟩
            cases b2 with
            | true =>
              obtain ⟨rfl, hgg⟩ := HH2.out hne (by simpa using hb2)
              have hgb : (g2.toList == gk.toList) = true := by rw [hgg]; simp
              clear hne hgg
              go_wp2_with fail
              refine wp_region_later (by kernel_rfl) (by kernel_rfl) ?_
              repeat go_big_quiet_step (fail)
              refine wpQuiet_nil ?_
              rintro w20 ⟨⟨_, hb⟩, rfl⟩
              clear q0 q1 q2 u0 u1 u2 m0 m1 hbtz hbcz hbmz
              have HB20 := Lib.hid (HB14.out.trans (hb.mono HB14.out.size))
              have HX20 := Lib.hid (HX14.out.later hb)
              have HT20 := Lib.hid (HT14.out.later hb)
              have HBVn := Lib.hid (HBV.out.trans (hb.mono HBV.out.size))
              clear HBV
              have HBV := HBVn
              clear HBVn
              have HBNn := Lib.hid (HBN.out.trans (hb.mono HBN.out.size))
              clear HBN
              have HBN := HBNn
              clear HBNn
              clear hb x0 x1 xf xz t0 t1 t2 tf tz HB14 HX14 HT14
              obtain ⟨x0, x1, xf, xz⟩ := HX20.out.v2
              obtain ⟨t0, t1, t2, tf, tz⟩ := HT20.out.v3
              obtain ⟨q0, q1, q2⟩ := (DT.out.below HBV.out hbbt).c3
              obtain ⟨u0, u1, u2⟩ := (DS.out.below HBV.out hbbc).c3
              obtain ⟨m0, m1⟩ := (DM.out.below HBN.out hbbm).c2
              have hbtz := Nat.lt_of_lt_of_le hbbt HBV.out.size
              have hbcz := Nat.lt_of_lt_of_le hbbc HBV.out.size
              have hbmz := Nat.lt_of_lt_of_le hbbm HBN.out.size
              dsimp only at q0 q1 q2 u0 u1 u2 m0 m1
              go_wp2_with fail
              refine wp_region_later (by kernel_rfl) (by kernel_rfl) ?_
              repeat go_big_quiet_step (fail)
              refine wpQuiet_nil ?_
              rintro w21 ⟨⟨_, hb⟩, rfl⟩
              clear q0 q1 q2 u0 u1 u2 m0 m1 hbtz hbcz hbmz
              have HB21 := Lib.hid (HB20.out.trans (hb.mono HB20.out.size))
              have HX21 := Lib.hid (HX20.out.later hb)
              have HT21 := Lib.hid (HT20.out.later hb)
              have HBVn := Lib.hid (HBV.out.trans (hb.mono HBV.out.size))
              clear HBV
              have HBV := HBVn
              clear HBVn
              have HBNn := Lib.hid (HBN.out.trans (hb.mono HBN.out.size))
              clear HBN
              have HBN := HBNn
              clear HBNn
              clear hb x0 x1 xf xz t0 t1 t2 tf tz HB20 HX20 HT20
              obtain ⟨x0, x1, xf, xz⟩ := HX21.out.v2
              obtain ⟨t0, t1, t2, tf, tz⟩ := HT21.out.v3
              go_wp2_with fail
              go_roundw
              case rel => exact ⟨m + 1, by omega, by go_num, HBV.out⟩
              case measure => simp [intOf]; omega
            | false =>
              obtain ⟨hgg, rfl, rfl⟩ := HH3.out hne (by simpa using hb2)
              have hgb : (g2.toList == []) = true := by rw [hgg]; simp
              clear hne hgg
              go_wp2_with fail
              refine wp_region_later (by kernel_rfl) (by kernel_rfl) ?_
              repeat go_big_quiet_step (fail)
              refine wpQuiet_nil ?_
              rintro w22 ⟨⟨_, hb⟩, rfl⟩
              clear q0 q1 q2 u0 u1 u2 m0 m1 hbtz hbcz hbmz
              have HB22 := Lib.hid (HB14.out.trans (hb.mono HB14.out.size))
              have HX22 := Lib.hid (HX14.out.later hb)
              have HT22 := Lib.hid (HT14.out.later hb)
              have HBVn := Lib.hid (HBV.out.trans (hb.mono HBV.out.size))
              clear HBV
              have HBV := HBVn
              clear HBVn
              have HBNn := Lib.hid (HBN.out.trans (hb.mono HBN.out.size))
              clear HBN
              have HBN := HBNn
              clear HBNn
              clear hb x0 x1 xf xz t0 t1 t2 tf tz HB14 HX14 HT14
              obtain ⟨x0, x1, xf, xz⟩ := HX22.out.v2
              obtain ⟨t0, t1, t2, tf, tz⟩ := HT22.out.v3
              go_wp2_with fail
              go_roundw
              case rel => exact ⟨m + 1, by omega, by go_num, HBV.out⟩
              case measure => simp [intOf]; omega
    | false =>
      go_wp2_with fail
      refine (awake16 _ (HWD.out.later HB5.out)).mono ?_
      rintro e23 w23 ⟨rfl, hb⟩
      have HB23 := Lib.hid (HB5.out.trans (hb.mono HB5.out.size))
      have HX23 := Lib.hid (HX5.out.later hb)
      clear hb x0 x1 xf xz HB5 HX5
      obtain ⟨x0, x1, xf, xz⟩ := HX23.out.v2
      go_wp2_with fail
      go_ret
      exact ⟨rfl, HB23.out⟩
end Go.Proofs.YtahpdkkpnkhnhaaGreatDoor
