/- Lemmas on the way to the law TopOneGrain (part 13): YBg Xc -/
import Derived.Test.YtpafjhjpchdcdaaGreatDoorTopOneGrainP12
set_option linter.unusedVariables false
set_option linter.unusedSimpArgs false

/- Walks: Stop, Start. -/
namespace Go.Proofs.YtpafjhjpchdcdaaGreatDoor
open Go Go.Proofs Go.RowKit Go.Shelf
def setE (p : Pl) (st : List Sx) (l : List Int) : Int := if ckState p st ≠ 0 then ckState p st else pathE p l
structure OkS (p : Pl) (st : List Sx) (l : List Int) : Prop where
  ok : OkP p
  len : st.length = p.ms.length
  sts : ckStL p 0 st = 0
  vd : validB p st = true
  ins : ∀ y ∈ l, inN p.ms.length y = true
  path : pathB p l = true
theorem ckState_ok {p : Pl} {st : List Sx} (h : ckState p st = 0) : OkP p ∧ st.length = p.ms.length ∧ ckStL p 0 st = 0 ∧ validB p st = true := by
  unfold ckState at h
  split at h
  · rename_i h1; exact absurd h h1
  · rename_i h1
    split at h
    · cases h
    · rename_i h2
      split at h
      · rename_i h3; exact absurd h h3
      · rename_i h3
        split at h
        · rename_i h4; exact ⟨ckPlant_ok (Decidable.not_not.1 h1), Decidable.not_not.1 h2, Decidable.not_not.1 h3, h4⟩
        · cases h
theorem pathE_ok {p : Pl} {l : List Int} (h : pathE p l = 0) : (∀ y ∈ l, inN p.ms.length y = true) ∧ pathB p l = true := by
  cases hq : l.any (fun x => !inN p.ms.length x) with
  | true => rw [pathE_unk hq] at h; cases h
  | false =>
    rw [pathE_in hq] at h
    refine ⟨unk_in hq, ?_⟩
    split at h
    · assumption
    · cases h
theorem setE_ok {p : Pl} {st : List Sx} {l : List Int} (h : setE p st l = 0) : OkS p st l := by
  unfold setE at h
  split at h
  · rename_i h1; exact absurd h h1
  · rename_i h1
    obtain ⟨a, b, c, d⟩ := ckState_ok (Decidable.not_not.1 h1)
    obtain ⟨e, f⟩ := pathE_ok h
    exact ⟨a, b, c, d, e, f⟩
def StE (w : World) (E : Int) (st : List Sx) (e : Ending) (w' : World) : Prop := ∃ v, e = .returned (.tuple #[v, .int .i64 E]) ∧ Own Sx.enc 3 58 w' w.heap.size v (if E ≠ 0 then [] else st) ∧ Below w.heap.size w w'
theorem StE.no {w w' : World} {E : Int} {st : List Sx} (h : E ≠ 0) (hb : Below w.heap.size w w') : StE w E st (.returned (.tuple #[.slice none 0 0, .int .i64 E])) w' := ⟨_, rfl, by rw [if_pos h]; exact Own.nil _ _ _ _ _, hb⟩
theorem StE.yes {w w' : World} {st : List Sx} {v : Value} (h : Own Sx.enc 3 58 w' w.heap.size v st) (hb : Below w.heap.size w w') : StE w 0 st (.returned (.tuple #[v, .int .i64 0])) w' := ⟨_, rfl, by rw [if_neg (by simp)]; exact h, hb⟩
def startK (p : Pl) (st : List Sx) (g : ByteArray) (k : Nat) (m : Int) : Int :=
  if ((st.getD m.toNat s0).runs || decide (0 ≤ (st.getD m.toNat s0).feeds) || st.any (fun s => s.feeds == m)) = true then 26
  else if (decide (k = 0) && decide (kn (kdA p m) = 1) && (st.getD m.toNat s0).grain.toList.isEmpty) = true then 13
  else if (!(st.getD m.toNat s0).grain.toList.isEmpty && !((st.getD m.toNat s0).grain.toList == g.toList)) = true then 16 else 0
def startL (p : Pl) (st : List Sx) (g : ByteArray) : Nat → List Int → Int
  | _, [] => 0
  | k, m :: r => if startK p st g k m ≠ 0 then startK p st g k m else startL p st g (k + 1) r
theorem startL_drop (p : Pl) (st : List Sx) (g : ByteArray) (l : List Int) (k : Nat) (h : k < l.length) : startL p st g k (l.drop k) = if startK p st g k l[k] ≠ 0 then startK p st g k l[k] else startL p st g (k + 1) (l.drop (k + 1)) := by
  rw [List.drop_eq_getElem_cons h]; rfl
def startE (p : Pl) (st : List Sx) (l : List Int) (g : ByteArray) : Int := if setE p st l ≠ 0 then setE p st l else if isName g = false then 8 else startL p st g 0 l
def startV (p : Pl) (l : List Int) (g : ByteArray) (k : Nat) (s : Sx) : Sx :=
  ⟨cvB (kdA p (l.getD k 0)), if k + 1 < l.length then l.getD (k + 1) 0 else s.feeds, if kpB (kdA p (l.getD k 0)) then g else s.grain⟩
def startTo (p : Pl) (l : List Int) (g : ByteArray) (st : List Sx) : Nat → List Sx
  | 0 => st
  | k + 1 => (startTo p l g st k).set (l.getD k 0).toNat (startV p l g k ((startTo p l g st k).getD (l.getD k 0).toNat s0))
theorem startTo_len (p : Pl) (l : List Int) (g : ByteArray) (st : List Sx) (k : Nat) : (startTo p l g st k).length = st.length := by
  induction k with
  | zero => rfl
  | succ k ih => rw [startTo, List.length_set, ih]
theorem startTo_succ (p : Pl) (l : List Int) (g : ByteArray) (st : List Sx) (k x : Nat) (hk : l.getD k 0 = (x : Int)) : startTo p l g st (k + 1) = (startTo p l g st k).set x (startV p l g k ((startTo p l g st k).getD x s0)) := by
  rw [startTo, hk, Int.toNat_natCast]
set_option maxRecDepth 100000 in
set_option maxHeartbeats 4000000 in
theorem start26 (w : World) (v1 v2 u y : Value) (gn : ByteArray) (p : Pl) (st : List Sx) (l : List Int) (hw : WdR w) (hv : PlR w w.heap.size v1 v2 p) (hu : Sl Sx.enc 3 w w.heap.size u st) (hs : SzR st) (hx : Sl encI 1 w w.heap.size y l) (hg : gn.size ≤ 9223372036854775807) : Calls Tryz.prog 10 #[.agg #[v1, v2], u, y, .string gn] w (StE w (startE p st l gn) (startTo p l gn st l.length)) := by
  have HP := Lib.hid (fun (w1 : World) (hb : Below w.heap.size w w1) => checkSet90 w1 _ _ u y p st l (hw.later hb) (hv.later hb) (hu.later hb) hs (hx.later hb))
  have HNM := Lib.hid (fun (w1 : World) => isName91 gn w1 hg)
  have HCV := Lib.hid (fun s t (w1 : World) (hb : Below w.heap.size w w1) => conveys84 s t w1 (hw.later hb))
  have HKN := Lib.hid (fun s t (w1 : World) (hb : Below w.heap.size w w1) => kindOf94 s t w1 (hw.later hb))
  have HKP := Lib.hid (fun s t (w1 : World) (hb : Below w.heap.size w w1) => keeps96 s t w1 (hw.later hb))
  have HCL := Lib.hid (fun (w1 : World) (hb : Below w.heap.size w w1) => clone95 w1 u st (hu.later hb))
  have HUL := Lib.hid (fun (w1 : World) (hb : Below w.heap.size w w1) => hu.later hb)
  obtain ⟨⟨a1, n1, rfl, hl1, hA1⟩, ⟨a2, n2, rfl, hl2, hA2⟩⟩ := hv
  obtain ⟨a, c, rfl, hlen, hA⟩ := hx
  obtain ⟨a3, n3, rfl, hl3, hA3⟩ := hu
  have HA1 := Lib.hid hA1
  have HA := Lib.hid hA
  have HA3 := Lib.hid hA3
  clear hA1 hA2 hA hl2 hw hs hg hA3
  obtain ⟨h11, h12⟩ := hl1
  obtain ⟨h31, h32⟩ := hl3
  obtain ⟨hl, hlc⟩ := hlen
  have HB := Lib.hid ((Below.refl w.heap.size w).alloc (Nat.le_refl _) (.cells #[.slice a1 p.ms.length n1, .slice a2 p.arcs.length n2] 25))
  have HX := Lib.hid (Box.new w #[.slice a1 p.ms.length n1, .slice a2 p.arcs.length n2] 25)
  have HOK := Lib.hid (fun h : setE p st l = 0 => setE_ok h)
  unfold setE at HOK
  obtain ⟨E, hE⟩ : ∃ E, startE p st l gn = E := ⟨_, rfl⟩
  rw [hE]
  unfold startE setE at hE
  have HE := Lib.hid hE
  clear hE
  obtain ⟨cp, hcp⟩ : ∃ c, (if ckState p st ≠ 0 then ckState p st else pathE p l) = c := ⟨_, rfl⟩
  rw [hcp] at HP HE HOK
  clear hcp
  obtain ⟨n, hn⟩ : ∃ n, p.ms.length = n := ⟨_, rfl⟩
  obtain ⟨m, hm⟩ : ∃ m, p.arcs.length = m := ⟨_, rfl⟩
  obtain ⟨ln, hll⟩ : ∃ m, l.length = m := ⟨_, rfl⟩
  obtain ⟨sn, hsn⟩ : ∃ m, st.length = m := ⟨_, rfl⟩
  rw [hn] at HB HX HP h11 h12 ⊢
  rw [hm] at HB HX HP ⊢
  rw [hll] at hl hlc HP ⊢
  rw [hsn] at h31 h32 HP HCL HUL ⊢
  have HN := Lib.hid hn
  have HLN := Lib.hid hll
  have HSN := Lib.hid hsn
  have HST := Lib.hid (fun k => (startTo_len p l gn st k).trans hsn)
  obtain ⟨Q, hQ⟩ : ∃ Q, StE w E (startTo p l gn st ln) = Q := ⟨_, rfl⟩
  rw [hQ]
  have HQ := Lib.hid hQ
  clear hQ hn hm hll hsn
  go_enter Tryz.func10, Tryz.ntmps10
  go_wp2_with fail
  refine (HP.out _ HB.out).mono ?_
  rintro e w2 ⟨rfl, hb2⟩
  have HB2 := Lib.hid (HB.out.trans (hb2.mono HB.out.size))
  have HX2 := Lib.hid (HX.out.later hb2)
  obtain ⟨x0, x1, xf, xz⟩ := HX2.out.v2
  clear hb2
  by_cases hc0 : cp = 0
  rotate_left
  · have k0 : (cp != 0) = true := by simpa using hc0
    rw [if_pos hc0] at HE
    have HC0 := Lib.hid hc0
    clear hc0
    go_wp2_with fail
    rw [← HQ.out, ← HE.out]
    exact StE.no HC0.out HB2.out
  subst hc0
  rw [if_neg (by simp)] at HE
  have HO := Lib.hid (HOK.out rfl)
  obtain rfl : sn = n := by rw [← HSN.out, HO.out.len, HN.out]
  obtain ⟨qn, hqn⟩ : ∃ q, isName gn = q := ⟨_, rfl⟩
  rw [hqn] at HNM HE
  clear hqn HOK HB HX
  go_wp2_with fail
  refine (HNM.out _).mono ?_
  rintro e w3 ⟨rfl, hb3⟩
  have HB3 := Lib.hid (HB2.out.trans (hb3.mono HB2.out.size))
  have HX3 := Lib.hid (HX2.out.later hb3)
  clear x0 x1 xf xz HB2 HX2 hb3
  cases qn with
  | false =>
    have HE8 := Lib.hid (show E = 8 by rw [← HE.out]; rfl)
    go_wp2_with fail
    rw [← HQ.out, HE8.out]
    exact StE.no (by decide) HB3.out
  | true =>
  rw [if_neg (by simp)] at HE
  have HE0 := Lib.hid (show startL p st gn 0 (l.drop 0) = E from HE.out)
  clear HE
  go_wp2_with fail
  go_loopw [30] (fun i wr => ∃ k : Nat, k ≤ ln ∧ i = .int .i64 k ∧ Below w.heap.size w wr ∧ Box wr w.heap.size 25 [.slice a1 sn n1, .slice a2 m n2] ∧ startL p st gn k (l.drop k) = E) (fun i _ => ln - (intOf i).toNat)
  case atStart => exact ⟨0, by omega, rfl, HB3.out, HX3.out, HE0.out⟩
  case round =>
    clear HB3 HX3 HE0
    obtain ⟨k, hk, rfl, hbe, hx, hrel⟩ := hrel
    have HL := Lib.hid hrel
    have HBE := Lib.hid hbe
    have HXE := Lib.hid hx
    clear hrel hbe hx
    by_cases hlt : k < ln
    · have hkl : k < l.length := by rw [HLN.out]; exact hlt
      obtain ⟨b, off, rfl, hbb, hcells⟩ := HA.out (by omega)
      have c0 := ((hcells k hkl).below HBE.out hbb).c1
      rw [Nat.mul_one] at c0
      have hbz : b < wr.heap.size := Nat.lt_of_lt_of_le hbb HBE.out.size
      obtain ⟨x, hy, hxn'⟩ := inN_nat (HO.out.ins l[k] (List.getElem_mem hkl))
      have hxn : x < sn := by rw [← HN.out]; exact hxn'
      rw [hy] at c0
      have hxl : x < p.ms.length := hxn'
      have hxs : x < st.length := by rw [HSN.out]; exact hxn
      obtain ⟨b1, off1, rfl, hbb1, hcells1⟩ := HA1.out (by omega)
      obtain ⟨b3, off3, rfl, hbb3, hcells3⟩ := HA3.out (by omega)
      have HCM := Lib.hid (hcells1 x hxl)
      have HCS := Lib.hid (hcells3 x hxs)
      have HKD := Lib.hid (kdA_nat hxl)
      have HGS := Lib.hid (stGet hxs)
      have HD := Lib.hid (startL_drop p st gn l k hkl)
      rw [hy] at HD
      have HSK := Lib.hid (show startK p st gn k (x : Int) = if ((st.getD x s0).runs || decide (0 ≤ (st.getD x s0).feeds) || st.any (fun s => s.feeds == (x : Int))) = true then 26
        else if (decide (k = 0) && decide (kn (kdA p x) = 1) && (st.getD x s0).grain.toList.isEmpty) = true then 13
        else if (!(st.getD x s0).grain.toList.isEmpty && !((st.getD x s0).grain.toList == gn.toList)) = true then 16 else 0 from rfl)
      rw [HGS.out, HKD.out] at HSK
      clear hcells hcells1 hcells3 hy hkl HKD HGS hxn'
      generalize p.ms[x] = mx at *
      generalize st[x] = sx at *
      clear hxl hxs
      obtain ⟨sm, tm⟩ := mx
      obtain ⟨rn, fd, gr⟩ := sx
      dsimp only at HSK
      obtain ⟨d0, d1, d2⟩ := (HCS.out.below HBE.out hbb3).c3
      dsimp only at d0 d1 d2
      have hb3z : b3 < wr.heap.size := Nat.lt_of_lt_of_le hbb3 HBE.out.size
      have HB3 := Lib.hid ((HBE.out.alloc (by have := HBE.out.size; omega) (.cells #[.int .i64 x] 3)).alloc (by have := HBE.out.size; simp; omega) (.cells #[.bool rn, .int .i64 fd, .string gr] 58))
      have HX3 := Lib.hid ((HXE.out.alloc (.cells #[.int .i64 x] 3)).alloc (.cells #[.bool rn, .int .i64 fd, .string gr] 58))
      have HI3 := Lib.hid ((Box.new wr #[.int .i64 x] 3).alloc (.cells #[.bool rn, .int .i64 fd, .string gr] 58))
      have HS3 := Lib.hid (Box.newAt (wr.alloc (.cells #[.int .i64 x] 3)) #[.bool rn, .int .i64 fd, .string gr] 58 (by simp : _ = wr.heap.size + 1))
      have HC := Lib.hid (containsX92 _ st 33 #[.pointer (some ⟨wr.heap.size, 0, none⟩)] (fun s => s.feeds == (x : Int)) _ (enters_of Tryz.func33 (by kernel_rfl) rfl) (HUL.out _ HB3.out) (fun w' s hb' _ => feeds93 s x wr.heap.size w' (HI3.out.later hb')))
      obtain ⟨qf, hqf⟩ : ∃ q, st.any (fun s => s.feeds == (x : Int)) = q := ⟨_, rfl⟩
      rw [hqf] at HC HSK
      clear hqf
      have HK94 := Lib.hid (HKN.out sm tm)
      have i0 := HI3.out.cell 0
      have iz := HI3.out.lt
      have ifz := HI3.out.frozen
      simp only [List.getElem?_cons_zero] at i0
      go_wp2_with fail
      refine HC.out.mono ?_
      rintro e w4 ⟨rfl, hb⟩
      have HB4 := Lib.hid (HB3.out.trans (hb.mono HB3.out.size))
      have HX4 := Lib.hid (HX3.out.later hb)
      have HI4 := Lib.hid (HI3.out.later hb)
      have HS4 := Lib.hid (HS3.out.later hb)
      clear hb i0 iz ifz d0 d1 d2
      obtain ⟨x0, x1, xf, xz⟩ := HX4.out.v2
      have i0 := HI4.out.cell 0
      have iz := HI4.out.lt
      have y0 := HS4.out.cell 0
      have y1 := HS4.out.cell 1
      have y2 := HS4.out.cell 2
      have yz := HS4.out.lt
      simp only [List.getElem?_cons_zero, List.getElem?_cons_succ] at i0 y0 y1 y2
      obtain ⟨m0, m1⟩ := (HCM.out.below HB4.out hbb1).c2
      have hb1z := Nat.lt_of_lt_of_le hbb1 HB4.out.size
      dsimp only at m0 m1
      obtain ⟨ge, hge⟩ : ∃ q, gr.toList.isEmpty = q := ⟨_, rfl⟩
      obtain ⟨gq, hgq⟩ : ∃ q, (gr.toList == gn.toList) = q := ⟨_, rfl⟩
      have hgq2 := bne_of hgq
      rw [hge, hgq] at HSK
      cases rn with
      | true =>
        rw [Bool.true_or, Bool.true_or, if_pos rfl] at HSK
        have HV := Lib.hid (show E = 26 by rw [← HL.out, HD.out, HSK.out]; rfl)
        go_wp2_with fail
        rw [← HQ.out, HV.out]
        exact StE.no (by decide) HB4.out
      | false =>
      by_cases hfd : 0 ≤ fd
      · have k1 : decide (0 ≤ fd) = true := decide_eq_true hfd
        rw [k1, Bool.or_true, Bool.true_or, if_pos rfl] at HSK
        clear hfd
        have HV := Lib.hid (show E = 26 by rw [← HL.out, HD.out, HSK.out]; rfl)
        go_wp2_with fail
        rw [← HQ.out, HV.out]
        exact StE.no (by decide) HB4.out
      have k1 : decide (0 ≤ fd) = false := decide_eq_false hfd
      rw [k1, Bool.or_false, Bool.false_or] at HSK
      clear hfd
      cases qf with
      | true =>
        rw [if_pos rfl] at HSK
        have HV := Lib.hid (show E = 26 by rw [← HL.out, HD.out, HSK.out]; rfl)
        go_wp2_with fail
        rw [← HQ.out, HV.out]
        exact StE.no (by decide) HB4.out
      | false =>
      rw [if_neg (by simp)] at HSK
      by_cases hk0 : k = 0
      · have k2 : ((k : Int) == 0) = true := by simp [hk0]
        rw [decide_eq_true hk0, Bool.true_and] at HSK
        have HK0 := Lib.hid hk0
        clear hk0
        by_cases hb1 : kn sm = 1
        · have k3 : (kn sm == 1) = true := by simp [hb1]
          rw [decide_eq_true hb1, Bool.true_and] at HSK
          clear hb1
          go_wp2_with fail
          refine (HK94.out _ HB4.out).mono ?_
          rintro e w5 ⟨rfl, hb⟩
          have HB5 := Lib.hid (HB4.out.trans (hb.mono HB4.out.size))
          have HX5 := Lib.hid (HX4.out.later hb)
          have HI5 := Lib.hid (HI4.out.later hb)
          have HS5 := Lib.hid (HS4.out.later hb)
          clear hb x0 x1 xf xz i0 iz y0 y1 y2 yz m0 m1 hb1z
          obtain ⟨x0, x1, xf, xz⟩ := HX5.out.v2
          have i0 := HI5.out.cell 0
          have iz := HI5.out.lt
          have y0 := HS5.out.cell 0
          have y1 := HS5.out.cell 1
          have y2 := HS5.out.cell 2
          have yz := HS5.out.lt
          simp only [List.getElem?_cons_zero, List.getElem?_cons_succ] at i0 y0 y1 y2
          obtain ⟨m0, m1⟩ := (HCM.out.below HB5.out hbb1).c2
          have hb1z := Nat.lt_of_lt_of_le hbb1 HB5.out.size
          dsimp only at m0 m1
          cases ge with
          | true =>
            have ge0 := empty_of hge
            rw [if_pos rfl] at HSK
            have HV := Lib.hid (show E = 13 by rw [← HL.out, HD.out, HSK.out]; rfl)
            go_wp2_with fail
            rw [← HQ.out, HV.out]
            exact StE.no (by decide) HB5.out
          | false =>
            rw [if_neg (by simp)] at HSK
            cases gq with
            | true =>
              have HV := Lib.hid (show startL p st gn (k + 1) (l.drop (k + 1)) = E by rw [← HL.out, HD.out, HSK.out]; rfl)
              go_wp2_with fail
              go_roundw
              case rel => exact ⟨k + 1, by omega, by go_num, HB5.out, HX5.out, HV.out⟩
              case measure => simp [intOf]; omega
            | false =>
            have HV := Lib.hid (show E = 16 by rw [← HL.out, HD.out, HSK.out]; rfl)
            go_wp2_with fail
            rw [← HQ.out, HV.out]
            exact StE.no (by decide) HB5.out
        · have k3 : (kn sm == 1) = false := by simp [hb1]
          rw [decide_eq_false hb1, Bool.false_and, if_neg (by simp)] at HSK
          clear hb1
          go_wp2_with fail
          refine (HK94.out _ HB4.out).mono ?_
          rintro e w5 ⟨rfl, hb⟩
          have HB5 := Lib.hid (HB4.out.trans (hb.mono HB4.out.size))
          have HX5 := Lib.hid (HX4.out.later hb)
          have HI5 := Lib.hid (HI4.out.later hb)
          have HS5 := Lib.hid (HS4.out.later hb)
          clear hb x0 x1 xf xz i0 iz y0 y1 y2 yz m0 m1 hb1z
          obtain ⟨x0, x1, xf, xz⟩ := HX5.out.v2
          have i0 := HI5.out.cell 0
          have iz := HI5.out.lt
          have y0 := HS5.out.cell 0
          have y1 := HS5.out.cell 1
          have y2 := HS5.out.cell 2
          have yz := HS5.out.lt
          simp only [List.getElem?_cons_zero, List.getElem?_cons_succ] at i0 y0 y1 y2
          obtain ⟨m0, m1⟩ := (HCM.out.below HB5.out hbb1).c2
          have hb1z := Nat.lt_of_lt_of_le hbb1 HB5.out.size
          dsimp only at m0 m1
          cases ge with
          | true =>
            have ge0 := empty_of hge
            have HV := Lib.hid (show startL p st gn (k + 1) (l.drop (k + 1)) = E by rw [← HL.out, HD.out, HSK.out]; rfl)
            go_wp2_with fail
            go_roundw
            case rel => exact ⟨k + 1, by omega, by go_num, HB5.out, HX5.out, HV.out⟩
            case measure => simp [intOf]; omega
          | false =>
            cases gq with
            | true =>
              have HV := Lib.hid (show startL p st gn (k + 1) (l.drop (k + 1)) = E by rw [← HL.out, HD.out, HSK.out]; rfl)
              go_wp2_with fail
              go_roundw
              case rel => exact ⟨k + 1, by omega, by go_num, HB5.out, HX5.out, HV.out⟩
              case measure => simp [intOf]; omega
            | false =>
            have HV := Lib.hid (show E = 16 by rw [← HL.out, HD.out, HSK.out]; rfl)
            go_wp2_with fail
            rw [← HQ.out, HV.out]
            exact StE.no (by decide) HB5.out
      · have k2 : ((k : Int) == 0) = false := by simp; omega
        rw [decide_eq_false hk0, Bool.false_and, Bool.false_and, if_neg (by simp)] at HSK
        have HK0 := Lib.hid hk0
        clear hk0
        cases ge with
        | true =>
          have ge0 := empty_of hge
          have HV := Lib.hid (show startL p st gn (k + 1) (l.drop (k + 1)) = E by rw [← HL.out, HD.out, HSK.out]; rfl)
          go_wp2_with fail
          go_roundw
          case rel => exact ⟨k + 1, by omega, by go_num, HB4.out, HX4.out, HV.out⟩
          case measure => simp [intOf]; omega
        | false =>
          cases gq with
          | true =>
            have HV := Lib.hid (show startL p st gn (k + 1) (l.drop (k + 1)) = E by rw [← HL.out, HD.out, HSK.out]; rfl)
            go_wp2_with fail
            go_roundw
            case rel => exact ⟨k + 1, by omega, by go_num, HB4.out, HX4.out, HV.out⟩
            case measure => simp [intOf]; omega
          | false =>
          have HV := Lib.hid (show E = 16 by rw [← HL.out, HD.out, HSK.out]; rfl)
          go_wp2_with fail
          rw [← HQ.out, HV.out]
          exact StE.no (by decide) HB4.out
    obtain rfl : ln = k := by omega
    have HE1 := Lib.hid (show E = 0 by rw [← HL.out, ← HLN.out, List.drop_length]; rfl)
    clear HL
    go_wp2_with fail
    refine (HCL.out _ HBE.out).mono ?_
    rintro e w4 ⟨v, rfl, hown, hb4⟩
    have HB4 := Lib.hid (HBE.out.trans (hb4.mono HBE.out.size))
    have HX4 := Lib.hid (HXE.out.later hb4)
    have hnp : 0 < sn := by rw [← HN.out]; exact HO.out.ok.pos
    obtain ⟨g, cap, hvv, hg1, hg2⟩ := hown.form (by rw [HSN.out]; exact hnp)
    rw [HSN.out] at hvv
    subst hvv
    have HO4 := Lib.hid (hown.lower HXE.out.lt)
    have hgw : w.heap.size < g := by have := HXE.out.lt; omega
    clear hb4 hown hg1 hg2 hnp
    go_wp2_with fail
    obtain ⟨W0, hW0⟩ : ∃ W, wr = W := ⟨_, rfl⟩
    go_loopw [85] (fun j wr => ∃ k : Nat, k ≤ ln ∧ j = .int .i64 k ∧ Below w.heap.size w wr ∧ Box wr w.heap.size 25 [.slice a1 sn n1, .slice a2 m n2] ∧ Own Sx.enc 3 58 wr (w.heap.size + 1) (.slice (some ⟨g, 0, none⟩) sn cap) (startTo p l gn st k)) (fun j _ => ln - (intOf j).toNat)
    case atStart => exact ⟨0, by omega, rfl, HB4.out, HX4.out, HO4.out⟩
    case round =>
      clear hW0 HBE HXE HB4 HX4 HO4
      obtain ⟨k, hk, rfl, hbe, hx, hown⟩ := hrel
      have HBE := Lib.hid hbe
      have HXE := Lib.hid hx
      have HOE := Lib.hid hown
      clear hbe hx hown
      by_cases hlt : k < ln
      rotate_left
      · obtain rfl : ln = k := by omega
        go_wp2_with fail
        rw [← HQ.out, HE1.out]
        exact StE.yes (HOE.out.lower (show w.heap.size ≤ w.heap.size + 1 by omega)) HBE.out
      have hkl : k < l.length := by rw [HLN.out]; exact hlt
      obtain ⟨b, off, rfl, hbb, hcells⟩ := HA.out (by omega)
      have c0 := ((hcells k hkl).below HBE.out hbb).c1
      rw [Nat.mul_one] at c0
      have hbz : b < wr.heap.size := Nat.lt_of_lt_of_le hbb HBE.out.size
      obtain ⟨x, hy, hxn'⟩ := inN_nat (HO.out.ins l[k] (List.getElem_mem hkl))
      have hxn : x < sn := by rw [← HN.out]; exact hxn'
      rw [hy] at c0
      have hxl : x < p.ms.length := hxn'
      have HLK := Lib.hid (show l.getD k 0 = (x : Int) by rw [getD_at l k hkl, hy])
      obtain ⟨b1, off1, rfl, hbb1, hcells1⟩ := HA1.out (by omega)
      have HCM := Lib.hid (hcells1 x hxl)
      have HKD := Lib.hid (kdA_nat hxl)
      have HSU := Lib.hid (startTo_succ p l gn st k x HLK.out)
      have HLL := Lib.hid (HST.out k)
      have HSE := Lib.hid (set_self (startTo p l gn st k) x (by rw [HLL.out]; exact hxn))
      have HCB := Lib.hid hcells
      clear hcells hcells1 hy hkl hxn'
      generalize startTo p l gn st k = L at *
      rw [← HSE.out] at HOE
      unfold startV at HSU
      rw [HLK.out, HKD.out, HLN.out] at HSU
      generalize p.ms[x] = mx at *
      generalize L.getD x s0 = sx at *
      clear hxl HSE HKD HLK
      obtain ⟨sm, tm⟩ := mx
      obtain ⟨rn, fd, gr⟩ := sx
      dsimp only at HSU
      have HK84 := Lib.hid (HCV.out sm tm)
      have HK96 := Lib.hid (HKP.out sm tm)
      obtain ⟨qc, hqc⟩ : ∃ q, cvB sm = q := ⟨_, rfl⟩
      obtain ⟨qk, hqk⟩ : ∃ q, kpB sm = q := ⟨_, rfl⟩
      rw [hqc] at HK84 HSU
      rw [hqk] at HK96 HSU
      clear hqc hqk
      obtain ⟨x0, x1, xf, xz⟩ := HXE.out.v2
      obtain ⟨o0, o1, o2⟩ := (HOE.out.atS HLL.out Sx.enc_len hxn).c3
      have ofz := HOE.out.frozenS HLL.out
      have oz := HOE.out.ltN.2
      obtain ⟨m0, m1⟩ := (HCM.out.below HBE.out hbb1).c2
      have hb1z := Nat.lt_of_lt_of_le hbb1 HBE.out.size
      dsimp only at o0 o1 o2 m0 m1
      by_cases hlast : k + 1 < ln
      · have d0 : decide ((k : Int) < (ln : Int) - 1) = true := decide_eq_true (by omega)
        have hkl2 : k + 1 < l.length := by rw [HLN.out]; exact hlast
        have c1 := ((HCB.out (k + 1) hkl2).below HBE.out hbb).c1
        rw [Nat.mul_one] at c1
        rw [if_pos hlast, getD_at l (k + 1) hkl2] at HSU
        generalize l[k + 1] = z at *
        have hz1 : (k : Int) + 1 < ln := by omega
        clear hkl2
        have HLA := Lib.hid hlast
        clear hlast
        have HB5 := Lib.hid (HBE.out.setCell (p := ⟨g, x * 3 + 1, none⟩) (by dsimp only; omega) (.int .i64 z))
        have HX5 := Lib.hid (HXE.out.other (a := ⟨g, x * 3 + 1, none⟩) (.int .i64 z) (by dsimp only; omega))
        have HO5 := Lib.hid (HOE.out.setS HLL.out Sx.enc_len hxn 1 (by omega) (.int .i64 z) ⟨rn, z, gr⟩ rfl)
        go_wp2_with fail
        refine (HK84.out _ HB5.out).mono ?_
        rintro e6 w6 ⟨rfl, hb⟩
        have HB6 := Lib.hid (HB5.out.trans (hb.mono HB5.out.size))
        have HX6 := Lib.hid (HX5.out.later hb)
        have HO6 := Lib.hid (HO5.out.later hb)
        clear hb x0 x1 xf xz o0 o1 o2 ofz oz m0 m1 hb1z
        obtain ⟨x0, x1, xf, xz⟩ := HX6.out.v2
        obtain ⟨o0, o1, o2⟩ := (HO6.out.atS HLL.out Sx.enc_len hxn).c3
        have ofz := HO6.out.frozenS HLL.out
        have oz := HO6.out.ltN.2
        obtain ⟨m0, m1⟩ := (HCM.out.below HB6.out hbb1).c2
        have hb1z := Nat.lt_of_lt_of_le hbb1 HB6.out.size
        dsimp only at o0 o1 o2 m0 m1
        have HB7 := Lib.hid (HB6.out.setCell (p := ⟨g, x * 3 + 0, none⟩) (by dsimp only; omega) (.bool qc))
        have HX7 := Lib.hid (HX6.out.other (a := ⟨g, x * 3 + 0, none⟩) (.bool qc) (by dsimp only; omega))
        have HO7 := Lib.hid (HO6.out.setS HLL.out Sx.enc_len hxn 0 (by omega) (.bool qc) ⟨qc, z, gr⟩ rfl)
        go_wp2_with fail
        refine (HK96.out _ HB7.out).mono ?_
        rintro e8 w8 ⟨rfl, hb⟩
        have HB8 := Lib.hid (HB7.out.trans (hb.mono HB7.out.size))
        have HX8 := Lib.hid (HX7.out.later hb)
        have HO8 := Lib.hid (HO7.out.later hb)
        clear hb x0 x1 xf xz o0 o1 o2 ofz oz m0 m1 hb1z
        obtain ⟨x0, x1, xf, xz⟩ := HX8.out.v2
        obtain ⟨o0, o1, o2⟩ := (HO8.out.atS HLL.out Sx.enc_len hxn).c3
        have ofz := HO8.out.frozenS HLL.out
        have oz := HO8.out.ltN.2
        obtain ⟨m0, m1⟩ := (HCM.out.below HB8.out hbb1).c2
        have hb1z := Nat.lt_of_lt_of_le hbb1 HB8.out.size
        dsimp only at o0 o1 o2 m0 m1
        cases qk with
        | false =>
          go_wp2_with fail
          go_roundw
          case rel => exact ⟨k + 1, by omega, by go_num, HB8.out, HX8.out, by rw [HSU.out]; exact HO8.out⟩
          case measure => simp [intOf]; omega
        | true =>
        have HB9 := Lib.hid (HB8.out.setCell (p := ⟨g, x * 3 + 2, none⟩) (by dsimp only; omega) (.string gn))
        have HX9 := Lib.hid (HX8.out.other (a := ⟨g, x * 3 + 2, none⟩) (.string gn) (by dsimp only; omega))
        have HO9 := Lib.hid (HO8.out.setS HLL.out Sx.enc_len hxn 2 (by omega) (.string gn) ⟨qc, z, gn⟩ rfl)
        go_wp2_with fail
        go_roundw
        case rel => exact ⟨k + 1, by omega, by go_num, HB9.out, HX9.out, by rw [HSU.out]; exact HO9.out⟩
        case measure => simp [intOf]; omega
      · have d0 : decide ((k : Int) < (ln : Int) - 1) = false := decide_eq_false (by omega)
        rw [if_neg hlast] at HSU
        have HLA := Lib.hid hlast
        clear hlast
        go_wp2_with fail
        refine (HK84.out _ HBE.out).mono ?_
        rintro e6 w6 ⟨rfl, hb⟩
        have HB6 := Lib.hid (HBE.out.trans (hb.mono HBE.out.size))
        have HX6 := Lib.hid (HXE.out.later hb)
        have HO6 := Lib.hid (HOE.out.later hb)
        clear hb x0 x1 xf xz o0 o1 o2 ofz oz m0 m1 hb1z
        obtain ⟨x0, x1, xf, xz⟩ := HX6.out.v2
        obtain ⟨o0, o1, o2⟩ := (HO6.out.atS HLL.out Sx.enc_len hxn).c3
        have ofz := HO6.out.frozenS HLL.out
        have oz := HO6.out.ltN.2
        obtain ⟨m0, m1⟩ := (HCM.out.below HB6.out hbb1).c2
        have hb1z := Nat.lt_of_lt_of_le hbb1 HB6.out.size
        dsimp only at o0 o1 o2 m0 m1
        have HB7 := Lib.hid (HB6.out.setCell (p := ⟨g, x * 3 + 0, none⟩) (by dsimp only; omega) (.bool qc))
        have HX7 := Lib.hid (HX6.out.other (a := ⟨g, x * 3 + 0, none⟩) (.bool qc) (by dsimp only; omega))
        have HO7 := Lib.hid (HO6.out.setS HLL.out Sx.enc_len hxn 0 (by omega) (.bool qc) ⟨qc, fd, gr⟩ rfl)
        go_wp2_with fail
        refine (HK96.out _ HB7.out).mono ?_
        rintro e8 w8 ⟨rfl, hb⟩
        have HB8 := Lib.hid (HB7.out.trans (hb.mono HB7.out.size))
        have HX8 := Lib.hid (HX7.out.later hb)
        have HO8 := Lib.hid (HO7.out.later hb)
        clear hb x0 x1 xf xz o0 o1 o2 ofz oz m0 m1 hb1z
        obtain ⟨x0, x1, xf, xz⟩ := HX8.out.v2
        obtain ⟨o0, o1, o2⟩ := (HO8.out.atS HLL.out Sx.enc_len hxn).c3
        have ofz := HO8.out.frozenS HLL.out
        have oz := HO8.out.ltN.2
        obtain ⟨m0, m1⟩ := (HCM.out.below HB8.out hbb1).c2
        have hb1z := Nat.lt_of_lt_of_le hbb1 HB8.out.size
        dsimp only at o0 o1 o2 m0 m1
        cases qk with
        | false =>
          go_wp2_with fail
          go_roundw
          case rel => exact ⟨k + 1, by omega, by go_num, HB8.out, HX8.out, by rw [HSU.out]; exact HO8.out⟩
          case measure => simp [intOf]; omega
        | true =>
        have HB9 := Lib.hid (HB8.out.setCell (p := ⟨g, x * 3 + 2, none⟩) (by dsimp only; omega) (.string gn))
        have HX9 := Lib.hid (HX8.out.other (a := ⟨g, x * 3 + 2, none⟩) (.string gn) (by dsimp only; omega))
        have HO9 := Lib.hid (HO8.out.setS HLL.out Sx.enc_len hxn 2 (by omega) (.string gn) ⟨qc, fd, gn⟩ rfl)
        go_wp2_with fail
        go_roundw
        case rel => exact ⟨k + 1, by omega, by go_num, HB9.out, HX9.out, by rw [HSU.out]; exact HO9.out⟩
        case measure => simp [intOf]; omega
end Go.Proofs.YtpafjhjpchdcdaaGreatDoor
/- Walks: layers, parcels; the grains of a parcel. -/
namespace Go.Proofs.YtpafjhjpchdcdaaGreatDoor.Nu
open Go Go.Proofs Go.RowKit Go.Proofs.YtpafjhjpchdcdaaGreatDoor
structure Ly where
  g : ByteArray
  m : Int
  a : Option Addr
  c : Nat
abbrev Ly.s (x : Ly) : Value := .slice x.a 1 x.c
def Ly.enc (x : Ly) : List Value := [.string x.g, .int .i64 x.m, .slice x.a 1 x.c]
theorem Ly.enc_len (x : Ly) : x.enc.length = 3 := rfl
def Ly.v (x : Ly) : Value := .agg #[.string x.g, .int .i64 x.m, .slice x.a 1 x.c]
structure LyP (x : Ly) : Prop where
  nm : isName x.g = true
  lo : 1 ≤ x.m
  hi : x.m ≤ 10000
theorem LyP.sz {x : Ly} (h : LyP x) : x.g.size ≤ 24 := by
  have := h.nm
  unfold isName at this
  simp only [Bool.and_eq_true, decide_eq_true_eq] at this
  exact this.1.2
structure LyR (w : World) (v : Value) (l : List Ly) : Prop where
  sl : Sl Ly.enc 3 w w.heap.size v l
  ok : ∀ x ∈ l, LyP x
  sh : ∀ x ∈ l, ShR w w.heap.size x.s
theorem LyR.later {w w' : World} {v : Value} {l : List Ly} (h : LyR w v l) (hb : Below w.heap.size w w') : LyR w' v l := ⟨h.sl.later hb, h.ok, fun x hx => (h.sh x hx).later hb⟩
def sumM : List Ly → Int
  | [] => 0
  | x :: r => x.m + sumM r
theorem sumM_drop (l : List Ly) (k : Nat) (h : k < l.length) : sumM (l.drop k) = l[k].m + sumM (l.drop (k + 1)) := by rw [List.drop_eq_getElem_cons h]; rfl
theorem sumM_bd : ∀ {l : List Ly}, (∀ x ∈ l, LyP x) → 0 ≤ sumM l ∧ sumM l ≤ 10000 * (l.length : Int)
  | [], _ => by simp [sumM]
  | x :: r, h => by
    have h1 := sumM_bd (l := r) (fun y hy => h y (by simp [hy]))
    have h2 := (h x (by simp)).lo
    have h3 := (h x (by simp)).hi
    simp only [sumM, List.length_cons]
    omega
set_option maxRecDepth 100000 in
set_option maxHeartbeats 1000000 in
theorem checkLayer54 (w : World) (hw : TbR w) (x : Ly) (hx : LyP x) (hs : ShR w w.heap.size x.s) : Calls Tryz.prog 54 #[x.v] w (Ret (.int .i64 0) w) := by
  have HN := Lib.hid (fun (w1 : World) => (by
    have h := isName141 x.g w1 (by have := hx.sz; omega)
    rwa [hx.nm] at h : Calls Tryz.prog 62 #[.string x.g] w1 (Ret (.bool true) w1)))
  have HS := Lib.hid (fun (w1 : World) (hb : Below w.heap.size w w1) => checkShares73 w1 (hw.later hb) x.s (hs.later hb))
  have d1 : decide (x.m < 1) = false := decide_eq_false (by have := hx.lo; omega)
  have d2 : decide (999999999 < x.m) = false := decide_eq_false (by have := hx.hi; omega)
  clear hx hs hw
  obtain ⟨g, m, sa, sc⟩ := x
  dsimp only [Ly.v] at *
  have HB := Lib.hid ((Below.refl w.heap.size w).alloc (Nat.le_refl _) (.cells #[.string g, .int .i64 m, .slice sa 1 sc] 49))
  have HX := Lib.hid (Box.new w #[.string g, .int .i64 m, .slice sa 1 sc] 49)
  obtain ⟨x0, x1, x2, xf, xz⟩ := HX.out.w3
  go_enter Tryz.func54, Tryz.ntmps54
  go_wp2_with fail
  refine (HN.out _).mono ?_
  rintro e4 w4 ⟨rfl, hb⟩
  replace HB := Lib.hid (HB.out.trans (hb.mono HB.out.size))
  replace HX := Lib.hid (HX.out.later hb)
  clear hb x0 x1 x2 xf xz
  obtain ⟨x0, x1, x2, xf, xz⟩ := HX.out.w3
  go_wp2_with fail
  refine (HS.out _ HB.out).mono ?_
  rintro e5 w5 ⟨rfl, hb⟩
  replace HB := Lib.hid (HB.out.trans (hb.mono HB.out.size))
  clear hb
  go_wp2_with fail
  go_ret
  exact ⟨rfl, HB.out⟩
set_option maxRecDepth 100000 in
set_option maxHeartbeats 1000000 in
theorem total25 (w : World) (v : Value) (l : List Ly) (hv : LyR w v l) (hl : l.length ≤ 64) : Calls Tryz.prog 25 #[v] w (Ret (.int .i64 (sumM l)) w) := by
  have HBD := Lib.hid (fun (k : Nat) => sumM_bd (l := l.drop k) (fun x hx => hv.ok x (List.mem_of_mem_drop hx)))
  have HOK := Lib.hid hv.ok
  obtain ⟨a, c, rfl, hlen, hA⟩ := hv.sl
  have HA := Lib.hid hA
  clear hA hv
  obtain ⟨R, hR⟩ : ∃ R, sumM l = R := ⟨_, rfl⟩
  rw [hR]
  have HR := Lib.hid hR
  clear hR hlen
  go_enter Tryz.func25, Tryz.ntmps25
  go_wp2_with fail
  go_loopw [3, 8] (fun s i wr => ∃ (k : Nat) (z : Int), k ≤ l.length ∧ s = .int .i64 z ∧ i = .int .i64 (k : Int) ∧ 0 ≤ z ∧ z ≤ 10000 * (k : Int) ∧ z + sumM (l.drop k) = R ∧ Below w.heap.size w wr) (fun _ i _ => l.length - (intOf i).toNat)
  case atStart => exact ⟨0, 0, by omega, rfl, rfl, by omega, by omega, by rw [← HR.out]; exact Int.zero_add _, Below.refl _ _⟩
  case round =>
    obtain ⟨k, z, hk, rfl, rfl, hz1, hz2, hrel, hbe⟩ := hrel
    have HL := Lib.hid hrel
    clear hrel
    by_cases hlt : k < l.length
    · obtain ⟨b, off, rfl, hbb, hcells⟩ := HA.out (by omega)
      obtain ⟨c0, c1, c2⟩ := ((hcells k hlt).below hbe hbb).c3
      have hbz : b < wr.heap.size := Nat.lt_of_lt_of_le hbb hbe.size
      have hd := Lib.hid (sumM_drop l k hlt)
      have hm := HOK.out l[k] (List.getElem_mem hlt)
      have hm1 := hm.lo
      have hm2 := hm.hi
      clear hcells HA hm
      generalize l[k] = x at *
      obtain ⟨g, m, sa, sc⟩ := x
      dsimp only at c0 c1 c2 hm1 hm2
      have HB := Lib.hid (hbe.alloc hbe.size (.cells #[.string g, .int .i64 m, .slice sa 1 sc] 49))
      have HX := Lib.hid (Box.new wr #[.string g, .int .i64 m, .slice sa 1 sc] 49)
      clear hbe
      go_wp2_with fail
      go_roundw
      case rel => exact ⟨k + 1, z + m, by omega, by go_num, by go_num, by omega, by omega, by have h := HL.out; rw [hd.out] at h; rw [← h]; exact Int.add_assoc _ _ _, HB.out⟩
      case measure => simp [intOf]; omega
    · have hkl : l.length = k := by omega
      have HF := Lib.hid (show z = R by have h := HL.out; rw [List.drop_of_length_le (by omega)] at h; rw [← h]; exact (Int.add_zero z).symm)
      have HB := Lib.hid hbe
      clear hbe hkl
      go_wp2_with fail
      go_ret
      exact ⟨by rw [← HF.out]; rfl, HB.out⟩
set_option maxRecDepth 100000 in
set_option maxHeartbeats 1000000 in
theorem checkParcel21 (w : World) (hw : TbR w) (v : Value) (l : List Ly) (hv : LyR w v l) (hl : l.length ≤ 64) : Calls Tryz.prog 21 #[v] w (Ret (.int .i64 0) w) := by
  have HCL := Lib.hid (fun (w1 : World) (hb : Below w.heap.size w w1) (x : Ly) (hx : x ∈ l) => checkLayer54 w1 (hw.later hb) x (hv.ok x hx) ((hv.sh x hx).later hb))
  have HT := Lib.hid (fun (w1 : World) (hb : Below w.heap.size w w1) => total25 w1 v l (hv.later hb) hl)
  have hbd := sumM_bd hv.ok
  have hsl := hv.sl
  obtain ⟨a, c, rfl, hlen, hA⟩ := hsl
  have HA := Lib.hid hA
  obtain ⟨S, hS⟩ : ∃ S, sumM l = S := ⟨_, rfl⟩
  rw [hS] at HT hbd
  have d1 : decide (999999999 < S) = false := decide_eq_false (by omega)
  have d2 : decide (64 < l.length) = false := decide_eq_false (by omega)
  have d3 : decide ((64 : Int) < (l.length : Int)) = false := decide_eq_false (by omega)
  have HWN := Lib.hid (fun (w1 : World) => (when24 w1 false 4 : Calls Tryz.prog 24 #[.bool false, .int .i64 4] w1 fun x w' => x = .returned (.int .i64 0) ∧ w1 = w'))
  clear hA hv hS hbd hw hlen
  go_enter Tryz.func21, Tryz.ntmps21
  go_wp2_with fail
  go_loopw [11] (fun i wr => ∃ k : Nat, k ≤ l.length ∧ i = .int .i64 (k : Int) ∧ Below w.heap.size w wr) (fun i _ => l.length - (intOf i).toNat)
  case atStart => exact ⟨0, by omega, rfl, Below.refl _ _⟩
  case round =>
    obtain ⟨k, hk, rfl, hbe⟩ := hrel
    have HB := Lib.hid hbe
    by_cases hlt : k < l.length
    · obtain ⟨b, off, rfl, hbb, hcells⟩ := HA.out (by omega)
      obtain ⟨c0, c1, c2⟩ := ((hcells k hlt).below hbe hbb).c3
      have hbz : b < wr.heap.size := Nat.lt_of_lt_of_le hbb hbe.size
      have HX1 := Lib.hid (fun (w1 : World) (hb : Below w.heap.size w w1) => HCL.out w1 hb l[k] (List.getElem_mem hlt))
      clear hcells HA hbe
      generalize l[k] = x at *
      obtain ⟨g, m, sa, sc⟩ := x
      dsimp only [Ly.v] at c0 c1 c2 HX1
      have HX := Lib.hid (Box.new wr #[.string g, .int .i64 m, .slice sa 1 sc] 49)
      replace HB := Lib.hid (HB.out.alloc HB.out.size (.cells #[.string g, .int .i64 m, .slice sa 1 sc] 49))
      go_wp2_with fail
      clear c0 c1 c2 hbz
      obtain ⟨x0, x1, x2, xf, xz⟩ := HX.out.w3
      go_wp2_with fail
      refine (HX1.out _ HB.out).mono ?_
      rintro e4 w4 ⟨rfl, hb⟩
      replace HB := Lib.hid (HB.out.trans (hb.mono HB.out.size))
      clear hb
      go_wp2_with fail
      go_roundw
      case rel => exact ⟨k + 1, by omega, by go_num, HB.out⟩
      case measure => simp [intOf]; omega
    · clear hbe
      go_wp2_with fail
      refine (HT.out _ HB.out).mono ?_
      rintro e4 w4 ⟨rfl, hb⟩
      replace HB := Lib.hid (HB.out.trans (hb.mono HB.out.size))
      clear hb
      go_wp2_with fail
      refine (HWN.out _).mono ?_
      rintro e5 w5 ⟨rfl, rfl⟩
      go_wp2_with fail
      go_ret
      exact ⟨rfl, HB.out⟩
end Go.Proofs.YtpafjhjpchdcdaaGreatDoor.Nu
