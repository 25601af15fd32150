/- The law WeighNarrows returns true for every input, and leaves its arguments as they were. No conditions. -/
import Derived.Test.YtlakcghdehdeiaaLib16
import Derived.Test.YtlakcghdehdeiaaLib14
set_option linter.unusedVariables false
set_option linter.unusedSimpArgs false

/- The law of narrower books, its main walk. -/
namespace Go.Proofs.Ytlakcghdehdeiaa
open Go Go.Proofs Go.RowKit

set_option maxRecDepth 100000 in
set_option maxHeartbeats 1000000 in
theorem narrows10 (v1 v2 : Value) (x1 x2 : Int) (b : Bk) (w : World) (hv : BkR w w.heap.size v1 v2 b) (hlt : lightB b = true) (h0 : 0 < b.ts.length) (hx1 : 0 ≤ x1 ∧ x1 ≤ 255) (hx2 : 0 ≤ x2 ∧ x2 ≤ 255) :
    Calls Try.prog 10 #[.agg #[v1, v2], .int .u8 x1, .int .u8 x2] w (Ret (.bool true) w) := by
  have hl := hlt
  simp only [lightB, decide_eq_true_eq] at hl
  obtain ⟨hl6, hl8, hck⟩ := hl
  have H := Lib.hid (fun (w1 : World) (hb : Below w.heap.size w w1) => light34 v1 v2 b w1 (hv.later hb))
  rw [hlt] at H
  have HCK := Lib.hid hck
  have HV := Lib.hid (fun (w1 : World) (hb : Below w.heap.size w w1) => hv.later hb)
  have HID := Lib.hid hv.ids
  obtain ⟨i, hi⟩ : ∃ i : Nat, x1 % (b.ts.length : Int) = i := ⟨(x1 % (b.ts.length : Int)).toNat, by have := Int.emod_nonneg x1 (show (b.ts.length : Int) ≠ 0 by omega); omega⟩
  have him : i < b.ts.length := by have := Int.emod_lt_of_pos x1 (show (0 : Int) < b.ts.length by omega); omega
  have HC42 := Lib.hid (fun (w1 : World) (hb : Below w.heap.size w w1) (q : Rg) => changed42 w1 v1 v2 b i q (hv.later hb) him (by omega))
  have HT := Lib.hid (fun (w1 : World) (hb : Below w.heap.size w w1) => tight_p w1 v1 v2 b (hv.later hb) hck)
  have hmass := (okBk_of hck).tk b.ts[i] (List.getElem_mem him)
  obtain ⟨t, ht⟩ : ∃ t, b.ts[i] = t := ⟨_, rfl⟩
  rw [ht] at hmass
  have HTI := Lib.hid ht
  obtain ⟨⟨a1, n1, hv1, hl1, hA1⟩, ⟨a2, n2, hv2, hl2, hA2⟩, hids⟩ := hv
  subst hv1 hv2
  obtain ⟨bb, off, rfl, hbb, hcells⟩ := hA2 h0
  have HCE := Lib.hid (fun (W : World) (hb : Below w.heap.size w W) => (hcells i him).below hb hbb)
  rw [ht] at HCE
  obtain ⟨tid, tfr, tto, lo, hh⟩ := t
  dsimp only at hmass
  obtain ⟨_, _, _, _, _, m1, m2, m3⟩ := hmass
  clear hA1 hA2 hids hlt hck ht hcells
  obtain ⟨a, ha⟩ : ∃ a, x2 % 9 = a := ⟨_, rfl⟩
  have ha0 : 0 ≤ a ∧ a ≤ 8 := by omega
  obtain ⟨ha0, ha8⟩ := ha0
  have hp0 : 0 ≤ (hh - lo) * a := Int.mul_nonneg (by omega) (by omega)
  have hp1 : (hh - lo) * a ≤ 999999999 * 8 := Int.mul_le_mul (by omega) (by omega) (by omega) (by omega)
  have hpart := part_in m2 ⟨ha0, ha8⟩
  obtain ⟨mid, hmid⟩ : ∃ mid, lo + (hh - lo) * a / 8 = mid := ⟨_, rfl⟩
  rw [hmid] at hpart
  obtain ⟨hp2, hp3⟩ := hpart
  have hne : ((b.ts.length : Int) == 0) = false := beq_eq_false_iff_ne.2 (by omega)
  go_enter Try.func10, Try.ntmps10
  go_wp2_with fail
  refine (awake16 _).mono ?_
  rintro e w1 ⟨rfl, hb1⟩
  have HX := Lib.hid ((Box.new w #[.slice a1 b.st.length n1, .slice (some ⟨bb, off, none⟩) b.ts.length n2] 38).later hb1)
  have HB1 := Lib.hid (((Below.refl w.heap.size w).alloc (Nat.le_refl _) (.cells #[.slice a1 b.st.length n1, .slice (some ⟨bb, off, none⟩) b.ts.length n2] 38)).trans (hb1.mono (by simp)))
  clear hb1
  obtain ⟨y0, y1, yf, yz⟩ := HX.out.v2
  go_wp2_with fail
  refine (H.out _ HB1.out).mono ?_
  rintro e w2 ⟨rfl, hb2⟩
  have HB2 := Lib.hid (HB1.out.trans (hb2.mono HB1.out.size))
  have HX2 := Lib.hid (HX.out.later hb2)
  clear hb2 y0 y1 yf yz HX HB1
  obtain ⟨y0, y1, yf, yz⟩ := HX2.out.v2
  obtain ⟨z0, z1, z2, z3, z4⟩ := (HCE.out _ HB2.out).c5
  go_wp2_with fail
  rw [hi]
  have hba : Below w2.heap.size w2 (w2.alloc (.cells #[.int .i64 lo, .int .i64 hh] 24)) := (Below.refl _ _).alloc (Nat.le_refl _) _
  have HR3 := Lib.hid (Box.new w2 #[.int .i64 lo, .int .i64 hh] 24)
  have HB3 := Lib.hid (HB2.out.trans (hba.mono HB2.out.size))
  have HX3 := Lib.hid (HX2.out.later hba)
  generalize w2.alloc (.cells #[.int .i64 lo, .int .i64 hh] 24) = w3 at *
  generalize w2.heap.size = P8 at *
  clear hba y0 y1 yf yz z0 z1 z2 z3 z4 HX2 HB2 hmid hp0 hp1
  refine (HC42.out _ HB3.out ⟨lo, mid⟩).mono ?_
  rintro e w4 ⟨v4, rfl, hbk, hb⟩
  have HB4 := Lib.hid (HB3.out.trans (hb.mono HB3.out.size))
  have HX4 := Lib.hid (HX3.out.later hb)
  have HR4 := Lib.hid (HR3.out.later hb)
  have HNB4 := Lib.hid hbk
  obtain ⟨a4, c4, rfl, _, _⟩ := hbk.ts
  have hnl : (b.ch i ⟨lo, mid⟩).ts.length = b.ts.length := chT_len _ _ _
  rw [hnl] at HNB4 ⊢
  clear hb hbk HX3 HB3 HR3 hnl
  obtain ⟨y0, y1, yf, yz⟩ := HX4.out.v2
  go_wp2_with fail
  have hba : Below w4.heap.size w4 (w4.alloc (.cells #[.slice a1 b.st.length n1, .slice a4 b.ts.length c4] 38)) := (Below.refl _ _).alloc (Nat.le_refl _) _
  have HN5 := Lib.hid (Box.new w4 #[.slice a1 b.st.length n1, .slice a4 b.ts.length c4] 38)
  have HB5 := Lib.hid (HB4.out.trans (hba.mono HB4.out.size))
  have HX5 := Lib.hid (HX4.out.later hba)
  have HR5 := Lib.hid (HR4.out.later hba)
  have HNB5 := Lib.hid (HNB4.out.later hba)
  generalize w4.alloc (.cells #[.slice a1 b.st.length n1, .slice a4 b.ts.length c4] 38) = w5 at *
  generalize w4.heap.size = P10 at *
  clear hba y0 y1 yf yz HX4 HB4 HR4 HNB4
  refine (HT.out _ HB5.out).mono ?_
  rintro e w6 ⟨hb, hor⟩
  have HOR := Lib.hid hor
  have HB6 := Lib.hid (HB5.out.trans (hb.mono HB5.out.size))
  have HX6 := Lib.hid (HX5.out.later hb)
  have HR6 := Lib.hid (HR5.out.later hb)
  have HN6 := Lib.hid (HN5.out.later hb)
  have HNB6 := Lib.hid (HNB5.out.later hb)
  clear hb HX5 HB5 HR5 HN5 HNB5 hor
  have e0 : (b.ts[i]).m.lo = lo := by rw [HTI.out]
  have e1 : (b.ts[i]).m.hi = hh := by rw [HTI.out]
  have HCKN : Hid (ckBook (b.ch i ⟨lo, mid⟩) = 0) := Lib.hid (by rw [← e0]; exact nar_ck HCK.out him (by omega) (by omega))
  have HT2 := Lib.hid (fun (w1 : World) hv => tight_p w1 (.slice a1 b.st.length n1) (.slice a4 b.ts.length c4) (b.ch i ⟨lo, mid⟩) hv HCKN.out)
  rcases HOR.out with ⟨hnc, rfl⟩ | ⟨hcon, at', ct, rs, rfl, hsl, hts⟩
  · have HNC : Hid (¬ Con (b.ch i ⟨lo, mid⟩)) := Lib.hid (by rw [← e0]; exact nar_con1 HCK.out him (by omega) (by omega) hnc)
    clear hnc e0 e1
    obtain ⟨y0, y1, yf, yz⟩ := HX6.out.v2
    obtain ⟨u0, u1, uf, uz⟩ := HN6.out.v2
    go_wp2_with fail
    refine (HT2.out _ HNB6.out).mono ?_
    rintro e w7 ⟨hb, ⟨_, rfl⟩ | ⟨hc, _⟩⟩
    · have HB7 := Lib.hid (HB6.out.trans (hb.mono HB6.out.size))
      clear hb
      go_wp2_with fail
      go_ret
      exact ⟨rfl, HB7.out⟩
    · exact absurd hc HNC.out
  · have hlen : i < rs.length := by rw [hts.len]; exact him
    have HC2 : Hid (Con (b.ch i ⟨lo, mid⟩) ↔ rs[i].lo ≤ mid) := Lib.hid (by rw [← e0]; exact nar_con2 HCK.out him (by omega) (by omega) hts hlen)
    have hin := nar_in him hts hlen
    rw [e0, e1] at hin
    have HTS := Lib.hid hts
    have HSL6 := Lib.hid hsl
    have HMC := Lib.hid (fun x h1 h2 => mid_con w HCK.out HID.out hts hlen (x := x) h1 h2)
    have HAL : Hid (∀ us, TightS (b.ch i ⟨lo, mid⟩) us → ∀ (k : Nat) (hk : k < rs.length) (hk2 : k < us.length), rs[k].lo ≤ us[k].lo ∧ us[k].hi ≤ rs[k].hi ∧ us[k].lo ≤ us[k].hi) := Lib.hid (fun us hus k hk hk2 => by rw [← e0] at hus; exact nar_all him (by omega) hts hus k hk hk2)
    have HMI : Hid (∀ us, TightS (b.ch i ⟨lo, mid⟩) us → rs[i].lo ≤ mid → ∀ (hiu : i < us.length), us[i].hi = min mid rs[i].hi) := Lib.hid (fun us hus hm hiu => by rw [← e0] at hus; exact nar_min w HCK.out HID.out him (by omega) hts hlen hm hus hiu)
    obtain ⟨ri, hri⟩ : ∃ r, rs[i] = r := ⟨_, rfl⟩
    have HRI := Lib.hid hri
    rw [hri] at hin
    rw [hri] at HC2 HMC HMI
    obtain ⟨tl, th⟩ := ri
    dsimp only at hin
    obtain ⟨q1, q2, q3⟩ := hin
    clear hts hsl hri e0 e1 hcon HOR
    obtain ⟨y0, y1, yf, yz⟩ := HX6.out.v2
    obtain ⟨u0, u1, uf, uz⟩ := HN6.out.v2
    have p0 : 0 ≤ (th - tl) * a := Int.mul_nonneg (by omega) (by omega)
    have p1 : (th - tl) * a ≤ 999999999 * 8 := Int.mul_le_mul (by omega) (by omega) (by omega) (by omega)
    have pp := part_in q2 ⟨ha0, ha8⟩
    obtain ⟨inn, hinn⟩ : ∃ inn, tl + (th - tl) * a / 8 = inn := ⟨_, rfl⟩
    rw [hinn] at pp
    obtain ⟨pp0, pp1⟩ := pp
    have HP0 := Lib.hid p0
    have HP1 := Lib.hid p1
    have HINN := Lib.hid hinn
    have HA := Lib.hid ha
    clear p0 p1 hinn ha
    have HMC2 := Lib.hid (HMC.out inn pp0 pp1)
    have HC42b := Lib.hid (fun w1 hb => HC42.out w1 hb ⟨inn, inn⟩)
    have HCKI : Hid (ckBook (b.ch i ⟨inn, inn⟩) = 0) := Lib.hid (ch_ck HCK.out him (by dsimp only; omega))
    go_wp2_with fail
    refine (HT2.out _ HNB6.out).mono ?_
    rintro e w7 ⟨hb, hor⟩
    have HOR2 := Lib.hid hor
    have HB7 := Lib.hid (HB6.out.trans (hb.mono HB6.out.size))
    have HX7 := Lib.hid (HX6.out.later hb)
    have HR7 := Lib.hid (HR6.out.later hb)
    have HSL7 := Lib.hid (HSL6.out.later hb)
    clear hb y0 y1 yf yz u0 u1 uf uz HX6 HB6 HR6 HN6 HNB6 HSL6 hor
    obtain ⟨_, _, e3, _, hA⟩ := HSL7.out
    obtain ⟨bt, ot, e4, hbt, htc⟩ := hA (by omega)
    injection e3 with e5 e6 e7
    subst e5
    subst e4
    clear e6 e7 hA
    have hcc := htc i hlen
    rw [HRI.out] at hcc
    obtain ⟨c0, c1⟩ := hcc.c2
    clear htc hcc
    obtain ⟨y0, y1, yf, yz⟩ := HX7.out.v2
    obtain ⟨r0, r1, rf, rz⟩ := HR7.out.v2
    rcases HOR2.out with ⟨hnc, rfl⟩ | ⟨hcn, a7, c7, us, rfl, hus, hut⟩
    · have HNL : ¬ tl ≤ mid := fun h => hnc (HC2.out.2 h)
      clear hnc
      have b5 : decide (tl ≤ mid) = false := decide_eq_false HNL
      go_wp2_with fail
      have p0 := HP0.out
      have p1 := HP1.out
      have d1 : IntKind.i64.wrap (th - tl) = th - tl := IntWalk.i64_in _ (by omega)
      have d2 : x2.tmod 9 = a := by rw [Int.tmod_eq_emod_of_nonneg hx2.1]; exact HA.out
      have d3 : IntKind.i64.wrap ((th - tl) * a) = (th - tl) * a := IntWalk.i64_in _ (by omega)
      have d4 : ((th - tl) * a).tdiv 8 = (th - tl) * a / 8 := Int.tdiv_eq_ediv_of_nonneg p0
      have d5 : IntKind.i64.wrap ((th - tl) * a / 8) = (th - tl) * a / 8 := IntWalk.i64_in _ (by omega)
      have d6 : IntKind.i64.wrap (tl + (th - tl) * a / 8) = inn := by rw [IntWalk.i64_in _ (by omega)]; exact HINN.out
      go_quiet (fail)
      clear d1 d2 d3 d4 d5 d6 p0 p1
      have hb := below_drewN (Below.refl w7.heap.size w7) nq
      have HB8 := Lib.hid (HB7.out.trans (hb.mono HB7.out.size))
      have HX8 := Lib.hid (HX7.out.later hb)
      have HR8 := Lib.hid (HR7.out.later hb)
      have HSL8 := Lib.hid (HSL7.out.later hb)
      generalize w7.drewN nq = w8 at *
      clear nq
      clear hb y0 y1 yf yz r0 r1 rf rz c0 c1 HB7 HX7 HR7 HSL7
      obtain ⟨y0, y1, yf, yz⟩ := HX8.out.v2
      go_wp2_with fail
      refine (HC42b.out _ HB8.out).mono ?_
      rintro e w9 ⟨v9, rfl, hbk, hb⟩
      have HB9 := Lib.hid (HB8.out.trans (hb.mono HB8.out.size))
      have HR9 := Lib.hid (HR8.out.later hb)
      have HSL9 := Lib.hid (HSL8.out.later hb)
      have HI37 := Lib.hid (isCon37 w9 (.slice a1 b.st.length n1) v9 (b.ch i ⟨inn, inn⟩) hbk)
      obtain ⟨a9, c9, rfl, _, _⟩ := hbk.ts
      clear hb hbk y0 y1 yf yz HX8 HB8 HR8 HSL8
      go_wp2_with fail
      refine HI37.out.mono ?_
      rintro e w10 ⟨ok, rfl, hb, hiff⟩
      have hokt : ok = true := hiff.2 ⟨HCKI.out, HMC2.out⟩
      subst hokt
      rw [HCKI.out]
      have HB10 := Lib.hid (HB9.out.trans (hb.mono HB9.out.size))
      have HR10 := Lib.hid (HR9.out.later hb)
      have HSL10 := Lib.hid (HSL9.out.later hb)
      clear hb hiff HB9 HR9 HSL9 HI37
      obtain ⟨r0, r1, rf, rz⟩ := HR10.out.v2
      obtain ⟨_, _, e3, _, hA⟩ := HSL10.out
      obtain ⟨bt', ot', e4, hbt', htc⟩ := hA (by omega)
      injection e3 with e5 e6 e7
      rw [← e5] at e4
      cases e4
      clear e5 e6 e7 hA
      have hcc := htc i hlen
      rw [HRI.out] at hcc
      obtain ⟨c0, c1⟩ := hcc.c2
      clear htc hcc
      have b1 : decide (tl < lo) = false := decide_eq_false (by omega)
      have b2 : decide (hh < th) = false := decide_eq_false (by omega)
      go_wp2_with fail
      go_quiet (fail)
      clear b1 b2 b5
      have hb := below_drewN (Below.refl w10.heap.size w10) nq
      have HB11 := Lib.hid (HB10.out.trans (hb.mono HB10.out.size))
      have HSL11 := Lib.hid (HSL10.out.later hb)
      generalize w10.drewN nq = w11 at *
      clear nq
      clear hb r0 r1 rf rz c0 c1 HB10 HR10 HSL10
      go_wp2_with fail
      go_ret
      exact ⟨rfl, HB11.out⟩
    · have hyl := HC2.out.1 hcn
      have b5 : decide (tl ≤ mid) = true := decide_eq_true hyl
      have HUS7 := Lib.hid hus
      have HUT := Lib.hid hut
      clear hus hut hcn
      have hnl : (b.ch i ⟨lo, mid⟩).ts.length = b.ts.length := chT_len _ _ _
      rw [hnl] at HUS7 ⊢
      clear hnl
      go_wp2_with fail
      have p0 := HP0.out
      have p1 := HP1.out
      have d1 : IntKind.i64.wrap (th - tl) = th - tl := IntWalk.i64_in _ (by omega)
      have d2 : x2.tmod 9 = a := by rw [Int.tmod_eq_emod_of_nonneg hx2.1]; exact HA.out
      have d3 : IntKind.i64.wrap ((th - tl) * a) = (th - tl) * a := IntWalk.i64_in _ (by omega)
      have d4 : ((th - tl) * a).tdiv 8 = (th - tl) * a / 8 := Int.tdiv_eq_ediv_of_nonneg p0
      have d5 : IntKind.i64.wrap ((th - tl) * a / 8) = (th - tl) * a / 8 := IntWalk.i64_in _ (by omega)
      have d6 : IntKind.i64.wrap (tl + (th - tl) * a / 8) = inn := by rw [IntWalk.i64_in _ (by omega)]; exact HINN.out
      go_quiet (fail)
      clear d1 d2 d3 d4 d5 d6 p0 p1
      have hb := below_drewN (Below.refl w7.heap.size w7) nq
      have HB8 := Lib.hid (HB7.out.trans (hb.mono HB7.out.size))
      have HX8 := Lib.hid (HX7.out.later hb)
      have HR8 := Lib.hid (HR7.out.later hb)
      have HSL8 := Lib.hid (HSL7.out.later hb)
      have HUS8 := Lib.hid (HUS7.out.later hb)
      generalize w7.drewN nq = w8 at *
      clear nq
      clear hb y0 y1 yf yz r0 r1 rf rz c0 c1 HB7 HX7 HR7 HSL7
      obtain ⟨y0, y1, yf, yz⟩ := HX8.out.v2
      go_wp2_with fail
      refine (HC42b.out _ HB8.out).mono ?_
      rintro e w9 ⟨v9, rfl, hbk, hb⟩
      have HB9 := Lib.hid (HB8.out.trans (hb.mono HB8.out.size))
      have HR9 := Lib.hid (HR8.out.later hb)
      have HSL9 := Lib.hid (HSL8.out.later hb)
      have HUS9 := Lib.hid (HUS8.out.later hb)
      have HI37 := Lib.hid (isCon37 w9 (.slice a1 b.st.length n1) v9 (b.ch i ⟨inn, inn⟩) hbk)
      obtain ⟨a9, c9, rfl, _, _⟩ := hbk.ts
      clear hb hbk y0 y1 yf yz HX8 HB8 HR8 HSL8
      go_wp2_with fail
      refine HI37.out.mono ?_
      rintro e w10 ⟨ok, rfl, hb, hiff⟩
      have hokt : ok = true := hiff.2 ⟨HCKI.out, HMC2.out⟩
      subst hokt
      rw [HCKI.out]
      have HB10 := Lib.hid (HB9.out.trans (hb.mono HB9.out.size))
      have HR10 := Lib.hid (HR9.out.later hb)
      have HSL10 := Lib.hid (HSL9.out.later hb)
      have HUS10 := Lib.hid (HUS9.out.later hb)
      clear hb hiff HB9 HR9 HSL9 HI37
      obtain ⟨r0, r1, rf, rz⟩ := HR10.out.v2
      obtain ⟨_, _, e3, _, hA⟩ := HSL10.out
      obtain ⟨bt', ot', e4, hbt', htc⟩ := hA (by omega)
      injection e3 with e5 e6 e7
      rw [← e5] at e4
      cases e4
      clear e5 e6 e7 hA
      have hcc := htc i hlen
      rw [HRI.out] at hcc
      obtain ⟨c0, c1⟩ := hcc.c2
      clear htc hcc
      have b1 : decide (tl < lo) = false := decide_eq_false (by omega)
      have b2 : decide (hh < th) = false := decide_eq_false (by omega)
      go_wp2_with fail
      go_quiet (fail)
      clear b1 b2 b5
      have hb := below_drewN (Below.refl w10.heap.size w10) nq
      have HB11 := Lib.hid (HB10.out.trans (hb.mono HB10.out.size))
      have HSL11 := Lib.hid (HSL10.out.later hb)
      have HUS11 := Lib.hid (HUS10.out.later hb)
      generalize w10.drewN nq = w11 at *
      clear nq
      clear hb r0 r1 rf rz c0 c1 HB10 HR10 HSL10
      go_wp2_with fail
      have HLR := Lib.hid HTS.out.len
      have hul : us.length = b.ts.length := by rw [HUT.out.len]; exact chT_len _ _ _
      have HLU := Lib.hid hul
      clear hul
      have HALU := Lib.hid (HAL.out us HUT.out)
      have hiu : i < us.length := by rw [HLU.out]; exact him
      have HMU := Lib.hid (HMI.out us HUT.out hyl hiu)
      obtain ⟨m, hm⟩ : ∃ m, b.ts.length = m := ⟨_, rfl⟩
      rw [hm] at HSL11 HUS11 HLR HLU him ⊢
      have HM := Lib.hid hm
      clear hm HAL HMI HMC HC2 HUT HTS
      go_loopw [18] (fun x wr => ∃ k : Nat, k ≤ m ∧ x = .int .i64 k ∧ Below w.heap.size w wr ∧ Sl Rg.enc 2 wr wr.heap.size (.slice (some { block := bt, off := ot }) m ct) rs ∧ Sl Rg.enc 2 wr wr.heap.size (.slice a7 m c7) us) (fun x _ => m - (intOf x).toNat)
      case atStart => exact ⟨0, by omega, rfl, HB11.out, HSL11.out, HUS11.out⟩
      case round =>
        clear HB11 HSL11 HUS11
        obtain ⟨k, hk, rfl, hbe, hst, hsu⟩ := hrel
        have HBE := Lib.hid hbe
        have HST := Lib.hid hst
        have HSU := Lib.hid hsu
        obtain ⟨_, _, e3, _, hA⟩ := hst
        obtain ⟨bt2, ot2, e4, _, htc⟩ := hA (by rw [HLR.out]; omega)
        injection e3 with e5 e6 e7
        rw [← e5] at e4
        cases e4
        clear e5 e6 e7 hA
        obtain ⟨_, _, e3, _, hA⟩ := hsu
        obtain ⟨bu, ou, e4, _, huc⟩ := hA (by rw [HLU.out]; omega)
        injection e3 with e5 e6 e7
        rw [← e5] at e4
        subst e4
        clear e5 e6 e7 hA
        by_cases hlt : k < m
        · have hkr : k < rs.length := by rw [HLR.out]; exact hlt
          have hku : k < us.length := by rw [HLU.out]; exact hlt
          obtain ⟨g1, g2, g3⟩ := HALU.out k hkr hku
          obtain ⟨d0, d1⟩ := (htc k hkr).c2
          obtain ⟨u0, u1⟩ := (huc k hku).c2
          obtain ⟨x, hx⟩ : ∃ x, rs[k] = x := ⟨_, rfl⟩
          obtain ⟨y, hy⟩ : ∃ y, us[k] = y := ⟨_, rfl⟩
          rw [hx] at g1 g2 d0 d1
          rw [hy] at g1 g2 g3 u0 u1
          obtain ⟨xl, xh⟩ := x
          obtain ⟨yl, yh⟩ := y
          dsimp only at *
          clear htc huc hx hy hbe
          have b1 : decide (yl < xl) = false := decide_eq_false (by omega)
          have b2 : decide (xh < yh) = false := decide_eq_false (by omega)
          have b3 : decide (yh < yl) = false := decide_eq_false (by omega)
          go_wp2_with fail
          go_quiet (fail)
          clear b1 b2 b3
          go_wp2_with fail
          go_roundw
          case rel => exact ⟨k + 1, by omega, by go_num, below_drewN HBE.out _, HST.out.later (below_drewN (Below.refl _ _) _), HSU.out.later (below_drewN (Below.refl _ _) _)⟩
          case measure => simp [intOf]; omega
        · obtain rfl : m = k := by omega
          obtain ⟨d0, d1⟩ := (htc i hlen).c2
          obtain ⟨u0, u1⟩ := (huc i hiu).c2
          rw [HMU.out] at u1
          rw [HRI.out] at d0 d1
          clear htc huc hbe
          dsimp only at *
          go_wp2_with fail
          clear hlt HALU
          have hmin : (min mid th == if th < mid then th else mid) = true := by
            rw [beq_iff_eq]
            split <;> omega
          have HMN := Lib.hid hmin
          clear hmin
          go_region
          have hbd := below_drewN HBE.out 1
          rw [HMN.out]
          go_wp2_with fail
          all_goals go_ret
          all_goals exact ⟨rfl, hbd⟩
end Go.Proofs.Ytlakcghdehdeiaa

namespace Go.Proofs.Ytlakcghdehdeiaa
open Go Go.Proofs Go.RowKit Go.ChangeShapes Go.WideShapes Go.ChangeAt Go.Joins Go.Deep

set_option maxRecDepth 100000 in
theorem weighNarrows_contract (H : Type) (enc : TypeId × Value → H) (W : World) (base : Nat) (args : Array Value) (ds gs : List (DataW H)) (before : List MemPlace)
    (hval : ∀ (j : Nat) t v, Try.f10.params[j]? = some t → args[j]? = some v → Value.okWide Try.prog W .any base t v)
    (hW : DataW.Whole enc Try.prog Try.f10.params.toList Rows.weighNarrowsSpec.vars false W args.toList ds gs before) :
    Calls Try.prog 10 args W fun e W' => ∃ v, e = .returned v ∧ Rows.weighNarrowsSpec.post enc Try.prog Try.f10 false true false false W args v W' := by
  have hW' := hW
  obtain ⟨p, q, hA0, hV, rfl, hfz, hnd⟩ := hW
  have hA : DataW.TrodAll enc Try.prog W 0 (fun _ => true) true Try.f10.params.toList args.toList ds p := hA0
  rw [Try.params10] at hA hval
  obtain ⟨v0, v1, v2, d0, d1, d2, p0, p1, p2, rfl, rfl, rfl, h0, h1, h2⟩ := trodAll_three hA
  obtain ⟨a0, n0, c0, d0, m0, e0, rfl, hn0, hm0, hl0⟩ := bk_open (hval 0 38 v0 rfl rfl) h0
  obtain ⟨x1, rfl, _, _, hn1⟩ := open_int Try.underlying5 (hval 1 5 v1 rfl rfl) h1
  obtain ⟨x2, rfl, _, _, hn2⟩ := open_int Try.underlying5 (hval 2 5 v2 rfl rfl) h2
  have key : Calls Try.prog 10 #[.agg #[.slice a0 n0 c0, .slice d0 m0 e0], .int .u8 x1, .int .u8 x2] W (Ret (.bool true) W) := by
    by_cases hbig : 6 < n0 ∨ 8 < m0
    · exact narrows10_dark _ _ x1 x2 W (dark_big a0 d0 n0 c0 m0 e0 W hn0 hm0 hbig) ⟨⟨_, _, _, rfl⟩, _, _, _, rfl⟩
    · obtain ⟨b, hb1, hb2, hb, _⟩ := hl0 (by omega) (by omega)
      by_cases hlt : lightB b = true
      · by_cases hz : b.ts.length = 0
        · exact narrows10_none _ _ x1 x2 b W hb hlt hz
        · exact narrows10 _ _ x1 x2 b W hb hlt (by omega) (byte_of hn1) (byte_of hn2)
      · exact narrows10_dark _ _ x1 x2 W (dark_of hb (eq_false_of_ne_true hlt)) ⟨⟨_, _, _, rfl⟩, _, _, _, rfl⟩
  refine key.mono fun e W' ⟨he, hb⟩ => ⟨_, he, ?_⟩
  exact law_post rfl rfl rfl (by rw [Try.params10]; decide) hW' rfl rfl rfl hb

set_option maxRecDepth 100000 in
theorem weighNarrows_lifted (os : Os) (started : os.Started) (H : Type) (enc : TypeId × Value → H) :
    ReturnsInHanded {} Try.checked os 10 .any (Rows.weighNarrowsSpec.pre6 enc Try.prog Try.f10 Rows.weighNarrowsRow.domain false) (Rows.weighNarrowsSpec.post enc Try.prog Try.f10 false true false false) := by
  refine returnsInHanded_of_change (C := Try.checked) Try.own started (by kernel_rfl) Try.func10
    (ChangeSpec.witness6 (enc := enc) (C := Try.checked) false ⟨#[], #[.agg #[.slice none 0 0, .slice none 0 0], .int .u8 0, .int .u8 0], []⟩ 8 (by kernel_rfl) (by kernel_rfl) (by kernel_rfl) (by kernel_rfl)) ?_
  intro W base args ds gs before hval hW _ _
  exact weighNarrows_contract H enc W base args ds gs before hval hW

theorem weighNarrows_holds : Rows.WeighNarrowsSaid :=
  OpenClaim.holds_of_wide 10 Try.f10 rfl rfl rfl rfl rfl rfl rfl ⟨rfl, rfl, rfl, rfl, rfl⟩ rfl rfl rfl rfl rfl (by kernel_rfl) Try.func10 (by kernel_rfl)
    (of_decide_eq_true (by kernel_rfl)) (by unfold Func.isWrapper; first | (rw [if_pos (by decide +kernel)]; kernel_rfl) | (rw [if_neg (by decide +kernel)]; exact ⟨rfl, rfl⟩))
    (fun os started H enc _ => weighNarrows_lifted os started H enc)
end Go.Proofs.Ytlakcghdehdeiaa
