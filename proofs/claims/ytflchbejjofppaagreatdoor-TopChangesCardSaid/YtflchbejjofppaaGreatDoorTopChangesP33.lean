/- Lemmas on the way to the law TopChanges (part 33): Kr -/
import Derived.Test.YtflchbejjofppaaGreatDoorTopChangesP25
import Derived.Test.YtflchbejjofppaaGreatDoorTopChangesP30
import Derived.Test.YtflchbejjofppaaGreatDoorTopChangesP31
import Derived.Test.YtflchbejjofppaaGreatDoorTopChangesP32
set_option linter.unusedVariables false
set_option linter.unusedSimpArgs false

/- Walks: the law TopChanges at a book with an assignment (UNDER WAY). -/
namespace Go.Proofs.YtflchbejjofppaaGreatDoor.Nu
open Go Go.Proofs Go.RowKit Go.Proofs.YtflchbejjofppaaGreatDoor
set_option maxRecDepth 100000 in
set_option maxHeartbeats 20000000 in
theorem changes3 (w : World) (hw : TbR w) (a1 a2 a3 : Option Addr) (n1 n2 n3 c1 c2 c3 : Nat) (b : Bk) (ps : List Int) (h1 : n1 ≤ 6) (h2 : n2 ≤ 8) (hl : b.st.length = n1) (hl2 : b.ts.length = n2) (hb : BkR w w.heap.size (.slice a1 n1 c1) (.slice a2 n2 c2) b) (hs : Sl encI 1 w w.heap.size (.slice a3 n3 c3) ps) (hk : ckBook b = 0) (hn : ckNums ps b.st.length = 0) (hc : Con b) :
    Calls Tryz.prog 3 #[.agg #[.slice a1 n1 c1, .slice a2 n2 c2], .slice a3 n3 c3] w (Ret (.bool true) w) := by
  have hch : chE b ps = 0 := by unfold chE; rw [hk, hn]; rfl
  have hok := okBk_of hk
  have HR := Lib.hid (fun (w1 : World) (hb : Below w.heap.size w w1) => routeScales7 w1 (hw.later hb))
  have HTB := Lib.hid (fun (w1 : World) (hb : Below w.heap.size w w1) => hw.later hb)
  have HC := Lib.hid (fun (w1 : World) (hbe : Below w.heap.size w w1) => (by have h := ckBook24 (.slice a1 n1 c1) (.slice a2 n2 c2) b w1 (hb.later hbe); rwa [hk] at h : Calls Tryz.prog 5 #[.agg #[.slice a1 n1 c1, .slice a2 n2 c2]] w1 (Ret (.int .i64 0) w1)))
  have HN := Lib.hid (fun (w1 : World) (hbe : Below w.heap.size w w1) => (by have h := ckNums30 (.slice a3 n3 c3) ps b.st.length w1 (hs.later hbe); rwa [hn, hl] at h : Calls Tryz.prog 6 #[.slice a3 n3 c3, .int .i64 n1] w1 (Ret (.int .i64 0) w1)))
  have HT := Lib.hid (fun (w1 : World) (hbe : Below w.heap.size w w1) => (((tighten35 w1 (.slice a1 n1 c1) (.slice a2 n2 c2) b (hb.later hbe)).mono fun e w' hp => by
    obtain ⟨hbb, h | h | h⟩ := hp
    · exact absurd hk h.1
    · exact absurd hc h.2.1
    · obtain ⟨v, rs, e, hsl, hln, ht⟩ := h.2.2
      exact ⟨v, rs, e, hsl, hln, ht, hbb⟩) : Calls Tryz.prog 8 #[.agg #[.slice a1 n1 c1, .slice a2 n2 c2]] w1 fun e w' => ∃ v rs, e = .returned (.tuple #[v, .int .i64 0]) ∧ Sl Rg.enc 2 w' w'.heap.size v rs ∧ rs.length = b.ts.length ∧ Tight b rs ∧ Below w1.heap.size w1 w'))
  have HG := Lib.hid (fun (w1 : World) (hbe : Below w.heap.size w w1) => (((change29 w1 (.slice a1 n1 c1) (.slice a2 n2 c2) (.slice a3 n3 c3) b ps (hb.later hbe) (hs.later hbe)).mono fun e w' hp => by
    obtain ⟨hbb, h | h | h⟩ := hp
    · exact absurd hch h.1
    · exact absurd hc h.2.1
    · obtain ⟨lo, hi, htg, h⟩ := h.2.2
      rcases h with ⟨_, e⟩ | ⟨_, e⟩
      · exact ⟨0, 0, 4, e, .inl rfl, (fun h => absurd h (by decide)), hbb⟩
      · exact ⟨lo, hi, 0, e, .inr rfl, (fun _ => together_gain hok hn htg), hbb⟩) : Calls Tryz.prog 9 #[.agg #[.slice a1 n1 c1, .slice a2 n2 c2], .slice a3 n3 c3] w1 fun e w' => ∃ lo hi k, e = .returned (.tuple #[.agg #[.int .i64 lo, .int .i64 hi], .int .i64 k]) ∧ (k = 4 ∨ k = 0) ∧ (k = 0 → Span b (fun ms => gain ps b.ts ms) lo hi) ∧ Below w1.heap.size w1 w'))
  have HIN := Lib.hid (fun (w1 : World) (hbe : Below w.heap.size w w1) (x : Int) => in76 (.slice a3 n3 c3) ps x w1 (hs.later hbe))
  have HWI := Lib.hid (fun (w1 : World) (hbe : Below w.heap.size w w1) (j : Nat) (hj : j < b.ts.length) (h : Bool) => (((witness43 w1 (.slice a1 n1 c1) (.slice a2 n2 c2) b j h (hb.later hbe)).mono fun e w' hp => by
    obtain ⟨hbb, h | h | h | h⟩ := hp
    · exact absurd hk h.1
    · exact absurd h.2.1 (by omega)
    · exact absurd hc h.2.2.2.1
    · obtain ⟨_, _, i, _, _, v, ms, e, hs, hw⟩ := h
      exact ⟨v, ms, e, hs, hw.1, hbb⟩) : Calls Tryz.prog 15 #[.agg #[.slice a1 n1 c1, .slice a2 n2 c2], .int .i64 (j : Int), .bool h] w1 fun e w' => ∃ vl ms, e = .returned (.tuple #[vl, .int .i64 0]) ∧ Sl encI 1 w' w'.heap.size vl ms ∧ IsAsg b ms ∧ Below w1.heap.size w1 w'))
  have HGN := Lib.hid (fun (w1 : World) (hbe : Below w.heap.size w w1) (vl : Value) (ms : List Int) (hsl : Sl encI 1 w1 w1.heap.size vl ms) (ha : IsAsg b ms) => gain41 (.slice a1 n1 c1) (.slice a2 n2 c2) vl (.slice a3 n3 c3) b ms ps w1 (hb.later hbe) hsl (hs.later hbe) (by rw [ha.len]; exact Nat.le_refl _) (by rw [hl2]; omega) (fun i h hi => by
    have := asg_at hok ha i hi
    rwa [List.getD_eq_getElem?_getD, List.getElem?_eq_getElem h, Option.getD_some] at this))
  have d1 : decide (6 < n1) = false := decide_eq_false (by omega)
  have d1' : decide ((6 : Int) < (n1 : Int)) = false := decide_eq_false (by omega)
  have d2 : decide (8 < n2) = false := decide_eq_false (by omega)
  have d2' : decide ((8 : Int) < (n2 : Int)) = false := decide_eq_false (by omega)
  have HBK := Lib.hid (fun (w1 : World) (hbe : Below w.heap.size w w1) => hb.later hbe)
  have HOK := Lib.hid hok
  have HL2 := Lib.hid hl2
  clear hl hb hs hk hn hc hch hw hok
  have HB := Lib.hid ((Below.refl w.heap.size w).alloc (Nat.le_refl _) (.cells #[.slice a1 n1 c1, .slice a2 n2 c2] 25))
  have HX := Lib.hid (Box.new w #[.slice a1 n1 c1, .slice a2 n2 c2] 25)
  obtain ⟨x0, x1, xf, xz⟩ := HX.out.v2
  go_enter Tryz.func3, Tryz.ntmps3
  go_wp2_with fail
  refine (HC.out _ HB.out).mono ?_
  rintro e4 w4 ⟨rfl, hb⟩
  replace HB := Lib.hid (HB.out.trans (hb.mono HB.out.size))
  replace HX := Lib.hid (HX.out.later hb)
  clear hb x0 x1 xf xz
  obtain ⟨x0, x1, xf, xz⟩ := HX.out.v2
  go_wp2_with fail
  refine (HN.out _ HB.out).mono ?_
  rintro e5 w5 ⟨rfl, hb⟩
  replace HB := Lib.hid (HB.out.trans (hb.mono HB.out.size))
  replace HX := Lib.hid (HX.out.later hb)
  clear hb x0 x1 xf xz
  obtain ⟨x0, x1, xf, xz⟩ := HX.out.v2
  go_wp2_with fail
  refine (HT.out _ HB.out).mono ?_
  rintro e6 w6 ⟨vt, rs, rfl, hvt, hrl, htt, hb⟩
  have HVT := Lib.hid hvt
  have HRL := Lib.hid hrl
  have HTT := Lib.hid htt
  clear hvt hrl htt
  replace HB := Lib.hid (HB.out.trans (hb.mono HB.out.size))
  replace HX := Lib.hid (HX.out.later hb)
  clear hb x0 x1 xf xz
  obtain ⟨x0, x1, xf, xz⟩ := HX.out.v2
  go_wp2_with fail
  refine (HG.out _ HB.out).mono ?_
  rintro e7 w7 ⟨lo, hi, kc, rfl, hkc, hsp, hb⟩
  have HSP := Lib.hid hsp
  replace HVT := Lib.hid (HVT.out.later hb)
  clear hsp
  replace HB := Lib.hid (HB.out.trans (hb.mono HB.out.size))
  replace HX := Lib.hid (HX.out.later hb)
  clear hb x0 x1 xf xz
  obtain ⟨x0, x1, xf, xz⟩ := HX.out.v2
  obtain ⟨at1, nt, ct, rfl⟩ : ∃ a n c, vt = .slice a n c := by obtain ⟨a, c, e, _⟩ := HVT.out; exact ⟨a, _, c, e⟩
  have HNT := Lib.hid (show nt = n2 by obtain ⟨a, c, e, _⟩ := id HVT.out; injection e with _ e _; rw [e, HRL.out, HL2.out])
  obtain rfl := HNT.out
  have k1 : ((kc != 0) && (kc != 4)) = false := by rcases hkc with rfl | rfl <;> rfl
  have HKC := Lib.hid hkc
  have hkk : (kc != 0) = false ∨ ((kc != 0) = true ∧ (kc != 4) = false) := by rcases hkc with rfl | rfl <;> simp
  clear hkc k1
  have HB7 := Lib.hid (HB.out.alloc HB.out.size (.cells #[.int .i64 lo, .int .i64 hi] 34))
  have HX7 := Lib.hid (HX.out.alloc (.cells #[.int .i64 lo, .int .i64 hi] 34))
  have HC7 := Lib.hid (Box.new w7 #[.int .i64 lo, .int .i64 hi] 34)
  have HV7 := Lib.hid (HVT.out.later ((Below.refl w7.heap.size w7).alloc (Nat.le_refl _) (.cells #[.int .i64 lo, .int .i64 hi] 34)))
  have hs7 : w7.heap.size + 1 = (w7.alloc (.cells #[.int .i64 lo, .int .i64 hi] 34)).heap.size := by simp
  obtain ⟨W7, hW7⟩ : ∃ W, w7.alloc (.cells #[.int .i64 lo, .int .i64 hi] 34) = W := ⟨_, rfl⟩
  rw [hW7] at HB7 HX7 HC7 HV7 hs7
  have HBn := Lib.hid ((HB7.out.alloc HB7.out.size (.cells #[.string ⟨#[48]⟩, .string ⟨#[48]⟩] 39)).alloc (by have := HB7.out.size; simp; omega) (.cells #[.string ⟨#[48]⟩, .string ⟨#[48]⟩] 39))
  have HXn := Lib.hid ((HX7.out.alloc (.cells #[.string ⟨#[48]⟩, .string ⟨#[48]⟩] 39)).alloc (.cells #[.string ⟨#[48]⟩, .string ⟨#[48]⟩] 39))
  have HCn := Lib.hid ((HC7.out.alloc (.cells #[.string ⟨#[48]⟩, .string ⟨#[48]⟩] 39)).alloc (.cells #[.string ⟨#[48]⟩, .string ⟨#[48]⟩] 39))
  have HIn := Lib.hid ((Box.new W7 #[.string ⟨#[48]⟩, .string ⟨#[48]⟩] 39).alloc (.cells #[.string ⟨#[48]⟩, .string ⟨#[48]⟩] 39))
  have HOn := Lib.hid (Box.newAt (W7.alloc (.cells #[.string ⟨#[48]⟩, .string ⟨#[48]⟩] 39)) #[.string ⟨#[48]⟩, .string ⟨#[48]⟩] 39 (n := W7.heap.size + 1) (by simp))
  have HVn := Lib.hid (HV7.out.later (((Below.refl W7.heap.size W7).alloc (Nat.le_refl _) (.cells #[.string ⟨#[48]⟩, .string ⟨#[48]⟩] 39)).alloc (by simp) (.cells #[.string ⟨#[48]⟩, .string ⟨#[48]⟩] 39)))
  obtain ⟨W8, hW8⟩ : ∃ W, (W7.alloc (.cells #[.string ⟨#[48]⟩, .string ⟨#[48]⟩] 39)).alloc (.cells #[.string ⟨#[48]⟩, .string ⟨#[48]⟩] 39) = W := ⟨_, rfl⟩
  rw [hW8] at HBn HXn HCn HIn HOn HVn
  have HB8 := Lib.hid (show Below W7.heap.size W7 W8 from by rw [← hW8]; exact (((Below.refl W7.heap.size W7).alloc (Nat.le_refl _) (.cells #[.string ⟨#[48]⟩, .string ⟨#[48]⟩] 39)).alloc (by simp) (.cells #[.string ⟨#[48]⟩, .string ⟨#[48]⟩] 39)))
  have HN1 := Lib.hid (show w.heap.size < W7.heap.size from HX7.out.lt)
  have HN2 := Lib.hid (show w7.heap.size < W7.heap.size from HC7.out.lt)
  clear x0 x1 xf xz hs7
  obtain ⟨y0, y1, yf, yz⟩ := HX7.out.v2
  obtain ⟨x0, x1, xf, xz⟩ := HXn.out.v2
  clear HC HN HT HG HB7 HX7 HC7 HVn HVT HNT
  have HZ0 := Lib.hid (show (⟨#[48]⟩ : ByteArray) = txz 0 by unfold txz; rw [itoa_nn (Int.le_refl 0)]; show _ = tx (Lib.decDigits 0); rw [dec_zero]; rfl)
  rcases hkk with kz | ⟨kz, kz4⟩
  · have ke : (kc == 0) = true := by simpa [bne] using kz
    go_wp2_with fail
    go_loopw [11, 12, 89] (fun cr on i wr => ∃ k : Nat, k ≤ nt ∧ i = .int .i64 (k : Int) ∧ cr = .int .i64 ((crs b ps k : Nat) : Int) ∧ on = .int .i64 (onl b ps k) ∧ Below w.heap.size w wr ∧ Box wr w.heap.size 25 [.slice a1 n1 c1, .slice a2 nt c2] ∧ Box wr w7.heap.size 34 [.int .i64 lo, .int .i64 hi] ∧ Box wr W7.heap.size 39 [.string (txz (sumC (inn b ps) Rg.lo rs k)), .string (txz (sumC (inn b ps) Rg.hi rs k))] ∧ Box wr (W7.heap.size + 1) 39 [.string (txz (sumC (oun b ps) Rg.lo rs k)), .string (txz (sumC (oun b ps) Rg.hi rs k))] ∧ Below W7.heap.size W7 wr) (fun _ _ i _ => nt - (intOf i).toNat)
    case atStart => exact ⟨0, Nat.zero_le _, rfl, rfl, rfl, HBn.out, HXn.out, HCn.out, by rw [show (⟨#[48]⟩ : ByteArray) = txz 0 from HZ0.out] at HIn; exact HIn.out, by rw [show (⟨#[48]⟩ : ByteArray) = txz 0 from HZ0.out] at HOn; exact HOn.out, HB8.out⟩
    case round =>
      obtain ⟨k, hk, rfl, rfl, rfl, hbe, hbx, hbc, hbi, hbo, hb7⟩ := hrel
      clear HB x0 x1 xf xz y0 y1 yf yz
      have HB := Lib.hid hbe
      have HX := Lib.hid hbx
      have HC := Lib.hid hbc
      have HI := Lib.hid hbi
      have HO := Lib.hid hbo
      have H7 := Lib.hid hb7
      have HV := Lib.hid (HV7.out.later hb7)
      have HSI := Lib.hid (sumC_ok HOK.out HTT.out HRL.out (inn b ps) k (by rw [HL2.out]; exact hk))
      have HSO := Lib.hid (sumC_ok HOK.out HTT.out HRL.out (oun b ps) k (by rw [HL2.out]; exact hk))
      have hcr := crs_le b ps k
      clear hbe hbx hbc hbi hbo hb7
      by_cases hlt : k < nt
      · have hkt : k < b.ts.length := by rw [HL2.out]; exact hlt
        obtain ⟨-, ⟨a2', c2', e2', -, hA2⟩, -⟩ := HBK.out wr HB.out
        injection e2' with e1 e2 e3
        obtain ⟨b2, o2, hea, hbb, hcells⟩ := hA2 (by omega)
        rw [← e1] at hea
        subst hea
        have HTA := Lib.hid (hcells k hkt)
        have HTZ := Lib.hid hbb
        clear hcells hA2 hbb e1 e2 e3
        obtain ⟨a3', c3', e3', -, hA3⟩ := id HV.out
        injection e3' with e1 e2 e3
        obtain ⟨b3, o3, heb, hbb, hcells⟩ := hA3 (by rw [HRL.out]; omega)
        rw [← e1] at heb
        subst heb
        have hrk : rs[k]'(by rw [HRL.out]; exact hkt) = rgA rs k := by unfold rgA; rw [List.getD_eq_getElem?_getD, List.getElem?_eq_getElem (by rw [HRL.out]; exact hkt)]; rfl
        have hra := hcells k (by rw [HRL.out]; exact hkt)
        rw [hrk] at hra
        have HRA := Lib.hid hra
        have HRZ := Lib.hid hbb
        have HRM := Lib.hid (tight_ok HOK.out HTT.out hkt HRL.out)
        clear hcells hA3 hbb hra hrk e1 e2 e3
        obtain ⟨t, ht⟩ : ∃ t, b.ts[k] = t := ⟨_, rfl⟩
        have hin : inn b ps k = (decide (t.to ∈ ps) && !decide (t.fr ∈ ps)) := by unfold inn; rw [List.getElem?_eq_getElem hkt, ht]
        have hou : oun b ps k = (decide (t.fr ∈ ps) && !decide (t.to ∈ ps)) := by unfold oun; rw [List.getElem?_eq_getElem hkt, ht]
        rw [ht] at HTA
        clear ht hkt
        have HSL := Lib.hid (fun (c : Nat → Bool) (f : Rg → Int) => sumC_succ c f rs k)
        obtain ⟨r, hr⟩ : ∃ r, rgA rs k = r := ⟨_, rfl⟩
        rw [hr] at HRA HRM HSL
        clear hr
        obtain ⟨r1, r2⟩ := r
        obtain ⟨tid, tfr, tto, tm⟩ := t
        obtain ⟨tlo, thi⟩ := tm
        dsimp only [Tk.enc, Rg.enc] at hin hou HTA HRA HRM
        have HCR := Lib.hid (show crs b ps (k + 1) = if (inn b ps k = true ∨ oun b ps k = true) then crs b ps k + 1 else crs b ps k from rfl)
        have HOL := Lib.hid (show onl b ps (k + 1) = if oun b ps k = true then -1 else if inn b ps k = true then (k : Int) else onl b ps k from rfl)
        have HIL := Lib.hid (HSL.out (inn b ps) Rg.lo)
        have HIH := Lib.hid (HSL.out (inn b ps) Rg.hi)
        have HUL := Lib.hid (HSL.out (oun b ps) Rg.lo)
        have HUH := Lib.hid (HSL.out (oun b ps) Rg.hi)
        clear HSL
        obtain ⟨IL, hq⟩ : ∃ x, sumC (inn b ps) Rg.lo rs k = x := ⟨_, rfl⟩
        rw [hq] at HSI HIL HI
        clear hq
        obtain ⟨IH, hq⟩ : ∃ x, sumC (inn b ps) Rg.hi rs k = x := ⟨_, rfl⟩
        rw [hq] at HSI HIH HI
        clear hq
        obtain ⟨UL, hq⟩ : ∃ x, sumC (oun b ps) Rg.lo rs k = x := ⟨_, rfl⟩
        rw [hq] at HSO HUL HO
        clear hq
        obtain ⟨UH, hq⟩ : ∃ x, sumC (oun b ps) Rg.hi rs k = x := ⟨_, rfl⟩
        rw [hq] at HSO HUH HO
        clear hq
        obtain ⟨cr, hq⟩ : ∃ x, crs b ps k = x := ⟨_, rfl⟩
        rw [hq] at HCR hcr ⊢
        clear hq
        obtain ⟨on, hq⟩ : ∃ x, onl b ps k = x := ⟨_, rfl⟩
        rw [hq] at HOL ⊢
        clear hq
        have d3 : decide (r2 < r1) = false := decide_eq_false (by have := HRM.out; omega)
        have d4 : decide (r1 < 0) = false := decide_eq_false (by have := HRM.out; omega)
        have d5 : decide (999999999 < r2) = false := decide_eq_false (by have := HRM.out; omega)
        have HRS := Lib.hid (fun (u : World) => routeSpan12 u r1 r2 (by have := HRM.out; omega) (by have := HRM.out; omega))
        have hcr' : (IntKind.i64.wrap ((cr : Int) + 1)) = ((cr + 1 : Nat) : Int) := by rw [IntWalk.i64_in _ (by omega)]; omega
        by_cases p : tto ∈ ps
        · by_cases q : tfr ∈ ps
          · have q1 : decide (tto ∈ ps) = true := decide_eq_true p
            have q2 : decide (tfr ∈ ps) = true := decide_eq_true q
            rw [q1, q2] at hin hou
            simp only [Bool.and_self, Bool.not_true, Bool.not_false, Bool.and_true, Bool.and_false] at hin hou
            rw [hin] at HIL HIH
            rw [hou] at HUL HUH
            rw [hin, hou] at HCR HOL
            simp only [if_true, if_false, Bool.false_eq_true, or_self, or_true, true_or] at HIL HIH HUL HUH HCR HOL
            clear p q hin hou
            obtain ⟨x0, x1, xf, xz⟩ := HX.out.v2
            obtain ⟨j0, j1, jf, jz⟩ := HI.out.v2
            obtain ⟨l0, l1, lf, lz⟩ := HO.out.v2
            obtain ⟨ta0, ta1, ta2, ta3, ta4⟩ := HTA.out.c5
            obtain ⟨ra0, ra1⟩ := HRA.out.c2
            have tz := HTZ.out
            have rz := HRZ.out
            go_wp2_with fail
            have HINL := Lib.hid (fun (X : Later wr) (x : Int) => HIN.out X.w (HB.out.trans (X.h.mono HB.out.size)) x)
            refine wp_region_head_later 16 (by kernel_rfl) (by kernel_rfl) ?_
            simp only [List.take_succ_cons, List.take_zero, List.drop_succ_cons, List.drop_zero]
            repeat go_big_quiet_step ((go_at_call 10; exact Calls.later_same (HINL.out _ _)))
            refine wpQuiet_nil ?_
            rintro w14 ⟨⟨_, hb14⟩, rfl⟩
            clear x0 x1 xf xz j0 j1 jf jz l0 l1 lf lz
            clear ta0 ta1 ta2 ta3 ta4 ra0 ra1 tz rz
            clear HINL
            replace HB := Lib.hid (HB.out.trans (hb14.mono HB.out.size))
            replace HX := Lib.hid (HX.out.later hb14)
            replace HC := Lib.hid (HC.out.later hb14)
            replace HI := Lib.hid (HI.out.later hb14)
            replace HO := Lib.hid (HO.out.later hb14)
            replace HV := Lib.hid (HV.out.later hb14)
            replace H7 := Lib.hid (H7.out.trans (hb14.mono H7.out.size))
            replace HTA := Lib.hid (HTA.out.below hb14 HTZ.out)
            replace HTZ := Lib.hid (Nat.lt_of_lt_of_le HTZ.out hb14.size)
            replace HRA := Lib.hid (HRA.out.below hb14 HRZ.out)
            replace HRZ := Lib.hid (Nat.lt_of_lt_of_le HRZ.out hb14.size)
            clear hb14
            obtain ⟨x0, x1, xf, xz⟩ := HX.out.v2
            obtain ⟨j0, j1, jf, jz⟩ := HI.out.v2
            obtain ⟨l0, l1, lf, lz⟩ := HO.out.v2
            obtain ⟨ta0, ta1, ta2, ta3, ta4⟩ := HTA.out.c5
            obtain ⟨ra0, ra1⟩ := HRA.out.c2
            have tz := HTZ.out
            have rz := HRZ.out
            go_wp2_with fail
            refine wp_region_later (by kernel_rfl) (by kernel_rfl) ?_
            repeat go_big_quiet_step (fail)
            refine wpQuiet_nil ?_
            rintro w15 ⟨⟨_, hb15⟩, rfl⟩
            clear x0 x1 xf xz j0 j1 jf jz l0 l1 lf lz
            clear ta0 ta1 ta2 ta3 ta4 ra0 ra1 tz rz
            replace HB := Lib.hid (HB.out.trans (hb15.mono HB.out.size))
            replace HX := Lib.hid (HX.out.later hb15)
            replace HC := Lib.hid (HC.out.later hb15)
            replace HI := Lib.hid (HI.out.later hb15)
            replace HO := Lib.hid (HO.out.later hb15)
            replace HV := Lib.hid (HV.out.later hb15)
            replace H7 := Lib.hid (H7.out.trans (hb15.mono H7.out.size))
            replace HTA := Lib.hid (HTA.out.below hb15 HTZ.out)
            replace HTZ := Lib.hid (Nat.lt_of_lt_of_le HTZ.out hb15.size)
            replace HRA := Lib.hid (HRA.out.below hb15 HRZ.out)
            replace HRZ := Lib.hid (Nat.lt_of_lt_of_le HRZ.out hb15.size)
            clear hb15
            obtain ⟨x0, x1, xf, xz⟩ := HX.out.v2
            obtain ⟨j0, j1, jf, jz⟩ := HI.out.v2
            obtain ⟨l0, l1, lf, lz⟩ := HO.out.v2
            obtain ⟨ta0, ta1, ta2, ta3, ta4⟩ := HTA.out.c5
            obtain ⟨ra0, ra1⟩ := HRA.out.c2
            have tz := HTZ.out
            have rz := HRZ.out
            go_wp2_with fail
            go_roundw
            case rel =>
              exact ⟨k + 1, by omega, by go_num, by rw [HCR.out], by rw [HOL.out], HB.out, HX.out, HC.out, by rw [HIL.out, HIH.out, Int.add_zero, Int.add_zero]; exact HI.out, by rw [HUL.out, HUH.out, Int.add_zero, Int.add_zero]; exact HO.out, H7.out⟩
            case measure => simp [intOf]; omega
          · have q1 : decide (tto ∈ ps) = true := decide_eq_true p
            have q2 : decide (tfr ∈ ps) = false := decide_eq_false q
            rw [q1, q2] at hin hou
            simp only [Bool.and_self, Bool.not_true, Bool.not_false, Bool.and_true, Bool.and_false] at hin hou
            rw [hin] at HIL HIH
            rw [hou] at HUL HUH
            rw [hin, hou] at HCR HOL
            simp only [if_true, if_false, Bool.false_eq_true, or_self, or_true, true_or] at HIL HIH HUL HUH HCR HOL
            clear p q hin hou
            obtain ⟨x0, x1, xf, xz⟩ := HX.out.v2
            obtain ⟨j0, j1, jf, jz⟩ := HI.out.v2
            obtain ⟨l0, l1, lf, lz⟩ := HO.out.v2
            obtain ⟨ta0, ta1, ta2, ta3, ta4⟩ := HTA.out.c5
            obtain ⟨ra0, ra1⟩ := HRA.out.c2
            have tz := HTZ.out
            have rz := HRZ.out
            go_wp2_with fail
            have HINL := Lib.hid (fun (X : Later wr) (x : Int) => HIN.out X.w (HB.out.trans (X.h.mono HB.out.size)) x)
            refine wp_region_head_later 16 (by kernel_rfl) (by kernel_rfl) ?_
            simp only [List.take_succ_cons, List.take_zero, List.drop_succ_cons, List.drop_zero]
            repeat go_big_quiet_step ((go_at_call 10; exact Calls.later_same (HINL.out _ _)))
            refine wpQuiet_nil ?_
            rintro w14 ⟨⟨_, hb14⟩, rfl⟩
            clear x0 x1 xf xz j0 j1 jf jz l0 l1 lf lz
            clear ta0 ta1 ta2 ta3 ta4 ra0 ra1 tz rz
            clear HINL
            replace HB := Lib.hid (HB.out.trans (hb14.mono HB.out.size))
            replace HX := Lib.hid (HX.out.later hb14)
            replace HC := Lib.hid (HC.out.later hb14)
            replace HI := Lib.hid (HI.out.later hb14)
            replace HO := Lib.hid (HO.out.later hb14)
            replace HV := Lib.hid (HV.out.later hb14)
            replace H7 := Lib.hid (H7.out.trans (hb14.mono H7.out.size))
            replace HTA := Lib.hid (HTA.out.below hb14 HTZ.out)
            replace HTZ := Lib.hid (Nat.lt_of_lt_of_le HTZ.out hb14.size)
            replace HRA := Lib.hid (HRA.out.below hb14 HRZ.out)
            replace HRZ := Lib.hid (Nat.lt_of_lt_of_le HRZ.out hb14.size)
            clear hb14
            obtain ⟨x0, x1, xf, xz⟩ := HX.out.v2
            obtain ⟨j0, j1, jf, jz⟩ := HI.out.v2
            obtain ⟨l0, l1, lf, lz⟩ := HO.out.v2
            obtain ⟨ta0, ta1, ta2, ta3, ta4⟩ := HTA.out.c5
            obtain ⟨ra0, ra1⟩ := HRA.out.c2
            have tz := HTZ.out
            have rz := HRZ.out
            go_wp2_with fail
            refine wp_region_later (by kernel_rfl) (by kernel_rfl) ?_
            repeat go_big_quiet_step (fail)
            refine wpQuiet_nil ?_
            rintro w15 ⟨⟨_, hb15⟩, rfl⟩
            clear x0 x1 xf xz j0 j1 jf jz l0 l1 lf lz
            clear ta0 ta1 ta2 ta3 ta4 ra0 ra1 tz rz
            replace HB := Lib.hid (HB.out.trans (hb15.mono HB.out.size))
            replace HX := Lib.hid (HX.out.later hb15)
            replace HC := Lib.hid (HC.out.later hb15)
            replace HI := Lib.hid (HI.out.later hb15)
            replace HO := Lib.hid (HO.out.later hb15)
            replace HV := Lib.hid (HV.out.later hb15)
            replace H7 := Lib.hid (H7.out.trans (hb15.mono H7.out.size))
            replace HTA := Lib.hid (HTA.out.below hb15 HTZ.out)
            replace HTZ := Lib.hid (Nat.lt_of_lt_of_le HTZ.out hb15.size)
            replace HRA := Lib.hid (HRA.out.below hb15 HRZ.out)
            replace HRZ := Lib.hid (Nat.lt_of_lt_of_le HRZ.out hb15.size)
            clear hb15
            obtain ⟨x0, x1, xf, xz⟩ := HX.out.v2
            obtain ⟨j0, j1, jf, jz⟩ := HI.out.v2
            obtain ⟨l0, l1, lf, lz⟩ := HO.out.v2
            obtain ⟨ta0, ta1, ta2, ta3, ta4⟩ := HTA.out.c5
            obtain ⟨ra0, ra1⟩ := HRA.out.c2
            have tz := HTZ.out
            have rz := HRZ.out
            go_wp2_with fail
            have HAD := Lib.hid (fun (u : World) (hu : Below w15.heap.size w15 u) => (by
              have m := HRM.out
              have n := HSI.out
              have e18 : (10 : Nat) ^ 18 = 1000000000000000000 := by decide
              exact addSpans11 u (HTB.out u (HB.out.trans (hu.mono HB.out.size))) IL IH r1 r2 ⟨by dsimp only; omega, by dsimp only; omega, n.2.1⟩ ⟨by dsimp only; omega, by dsimp only; omega, m.2.1⟩ ⟨by omega, by omega⟩ ⟨by omega, by omega⟩ : Calls Tryz.prog 11 #[.agg #[.string (txz IL), .string (txz IH)], .agg #[.string (txz r1), .string (txz r2)]] u (Ret (.tuple #[.agg #[.string (txz (IL + r1)), .string (txz (IH + r2))], .int .i64 0]) u)))
            refine wp_region_storegrow 11 10 _ (fun W' => ∃ W1, Below w15.heap.size w15 W1 ∧ W' = (W1.setCell ⟨W7.heap.size, 0, none⟩ (.string (txz (IL + r1)))).setCell ⟨W7.heap.size, 1, none⟩ (.string (txz (IH + r2)))) (by kernel_rfl) (by kernel_rfl) rfl (storegrow_free 9 (by kernel_rfl) rfl rfl) ?_
            apply Exists.intro
            refine ⟨fun Y => ?_, fun W1 hW1 => ?_, ?_⟩
            · simp only [headsOf, List.take_succ_cons, List.drop_succ_cons, List.take_zero, List.drop_zero, Nat.reduceSub, List.cons_append, List.nil_append]
              repeat go_big_quiet_step ((first | (go_at_call 12; exact Calls.later2 (HRS.out _)) | (go_at_call 11; exact Calls.later2 (HAD.out _ (Later2.below _)))))
              exact wpQuiet_nil rfl
            · refine ⟨(W1.setCell ⟨W7.heap.size, 0, none⟩ (.string (txz (IL + r1)))).setCell ⟨W7.heap.size, 1, none⟩ (.string (txz (IH + r2))), ?_, W1, hW1, rfl⟩
              obtain ⟨z0, z1, zf, zz⟩ := (HI.out.later hW1).v2
              clear x0 x1 xf xz j0 j1 jf jz l0 l1 lf lz
              clear ta0 ta1 ta2 ta3 ta4 ra0 ra1 tz rz
              go_simp
              first | done | rfl
            rintro W2 ⟨W1, hW1, rfl⟩
            simp only [Act.put, List.setIfInBounds_toArray, List.set_cons_succ, List.set_cons_zero, List.drop_succ_cons, List.drop_zero]
            clear x0 x1 xf xz j0 j1 jf jz l0 l1 lf lz
            clear ta0 ta1 ta2 ta3 ta4 ra0 ra1 tz rz
            clear HAD
            replace HB := Lib.hid (HB.out.trans (hW1.mono HB.out.size))
            replace HX := Lib.hid (HX.out.later hW1)
            replace HC := Lib.hid (HC.out.later hW1)
            replace HI := Lib.hid (HI.out.later hW1)
            replace HO := Lib.hid (HO.out.later hW1)
            replace HV := Lib.hid (HV.out.later hW1)
            replace H7 := Lib.hid (H7.out.trans (hW1.mono H7.out.size))
            clear hW1
            clear HTA HTZ HRA HRZ
            go_wp2_with fail
            go_roundw
            case rel =>
              exact ⟨k + 1, by omega, by go_num, by rw [HCR.out]; first | rfl | go_num, by rw [HOL.out], (HB.out.setCell (p := ⟨W7.heap.size, 0, none⟩) (by have := HN1.out; have := HN2.out; dsimp only; omega) _).setCell (p := ⟨W7.heap.size, 1, none⟩) (by have := HN1.out; have := HN2.out; dsimp only; omega) _, (HX.out.other (a := ⟨W7.heap.size, 0, none⟩) (.string (txz (IL + r1))) (by have := HN1.out; have := HN2.out; dsimp only; omega)).other (a := ⟨W7.heap.size, 1, none⟩) (.string (txz (IH + r2))) (by have := HN1.out; have := HN2.out; dsimp only; omega), (HC.out.other (a := ⟨W7.heap.size, 0, none⟩) (.string (txz (IL + r1))) (by have := HN1.out; have := HN2.out; dsimp only; omega)).other (a := ⟨W7.heap.size, 1, none⟩) (.string (txz (IH + r2))) (by have := HN1.out; have := HN2.out; dsimp only; omega), by rw [HIL.out, HIH.out]; exact (HI.out.set 0 (.string (txz (IL + r1)))).set 1 (.string (txz (IH + r2))), by rw [HUL.out, HUH.out, Int.add_zero, Int.add_zero]; exact (HO.out.other (a := ⟨W7.heap.size, 0, none⟩) (.string (txz (IL + r1))) (by have := HN1.out; have := HN2.out; dsimp only; omega)).other (a := ⟨W7.heap.size, 1, none⟩) (.string (txz (IH + r2))) (by have := HN1.out; have := HN2.out; dsimp only; omega), (H7.out.setCell (p := ⟨W7.heap.size, 0, none⟩) (by have := HN1.out; have := HN2.out; dsimp only; omega) _).setCell (p := ⟨W7.heap.size, 1, none⟩) (by have := HN1.out; have := HN2.out; dsimp only; omega) _⟩
            case measure => simp [intOf]; omega
        · by_cases q : tfr ∈ ps
          · have q1 : decide (tto ∈ ps) = false := decide_eq_false p
            have q2 : decide (tfr ∈ ps) = true := decide_eq_true q
            rw [q1, q2] at hin hou
            simp only [Bool.and_self, Bool.not_true, Bool.not_false, Bool.and_true, Bool.and_false] at hin hou
            rw [hin] at HIL HIH
            rw [hou] at HUL HUH
            rw [hin, hou] at HCR HOL
            simp only [if_true, if_false, Bool.false_eq_true, or_self, or_true, true_or] at HIL HIH HUL HUH HCR HOL
            clear p q hin hou
            obtain ⟨x0, x1, xf, xz⟩ := HX.out.v2
            obtain ⟨j0, j1, jf, jz⟩ := HI.out.v2
            obtain ⟨l0, l1, lf, lz⟩ := HO.out.v2
            obtain ⟨ta0, ta1, ta2, ta3, ta4⟩ := HTA.out.c5
            obtain ⟨ra0, ra1⟩ := HRA.out.c2
            have tz := HTZ.out
            have rz := HRZ.out
            go_wp2_with fail
            have HINL := Lib.hid (fun (X : Later wr) (x : Int) => HIN.out X.w (HB.out.trans (X.h.mono HB.out.size)) x)
            refine wp_region_head_later 16 (by kernel_rfl) (by kernel_rfl) ?_
            simp only [List.take_succ_cons, List.take_zero, List.drop_succ_cons, List.drop_zero]
            repeat go_big_quiet_step ((go_at_call 10; exact Calls.later_same (HINL.out _ _)))
            refine wpQuiet_nil ?_
            rintro w14 ⟨⟨_, hb14⟩, rfl⟩
            clear x0 x1 xf xz j0 j1 jf jz l0 l1 lf lz
            clear ta0 ta1 ta2 ta3 ta4 ra0 ra1 tz rz
            clear HINL
            replace HB := Lib.hid (HB.out.trans (hb14.mono HB.out.size))
            replace HX := Lib.hid (HX.out.later hb14)
            replace HC := Lib.hid (HC.out.later hb14)
            replace HI := Lib.hid (HI.out.later hb14)
            replace HO := Lib.hid (HO.out.later hb14)
            replace HV := Lib.hid (HV.out.later hb14)
            replace H7 := Lib.hid (H7.out.trans (hb14.mono H7.out.size))
            replace HTA := Lib.hid (HTA.out.below hb14 HTZ.out)
            replace HTZ := Lib.hid (Nat.lt_of_lt_of_le HTZ.out hb14.size)
            replace HRA := Lib.hid (HRA.out.below hb14 HRZ.out)
            replace HRZ := Lib.hid (Nat.lt_of_lt_of_le HRZ.out hb14.size)
            clear hb14
            obtain ⟨x0, x1, xf, xz⟩ := HX.out.v2
            obtain ⟨j0, j1, jf, jz⟩ := HI.out.v2
            obtain ⟨l0, l1, lf, lz⟩ := HO.out.v2
            obtain ⟨ta0, ta1, ta2, ta3, ta4⟩ := HTA.out.c5
            obtain ⟨ra0, ra1⟩ := HRA.out.c2
            have tz := HTZ.out
            have rz := HRZ.out
            go_wp2_with fail
            refine wp_region_later (by kernel_rfl) (by kernel_rfl) ?_
            repeat go_big_quiet_step (fail)
            refine wpQuiet_nil ?_
            rintro w15 ⟨⟨_, hb15⟩, rfl⟩
            clear x0 x1 xf xz j0 j1 jf jz l0 l1 lf lz
            clear ta0 ta1 ta2 ta3 ta4 ra0 ra1 tz rz
            replace HB := Lib.hid (HB.out.trans (hb15.mono HB.out.size))
            replace HX := Lib.hid (HX.out.later hb15)
            replace HC := Lib.hid (HC.out.later hb15)
            replace HI := Lib.hid (HI.out.later hb15)
            replace HO := Lib.hid (HO.out.later hb15)
            replace HV := Lib.hid (HV.out.later hb15)
            replace H7 := Lib.hid (H7.out.trans (hb15.mono H7.out.size))
            replace HTA := Lib.hid (HTA.out.below hb15 HTZ.out)
            replace HTZ := Lib.hid (Nat.lt_of_lt_of_le HTZ.out hb15.size)
            replace HRA := Lib.hid (HRA.out.below hb15 HRZ.out)
            replace HRZ := Lib.hid (Nat.lt_of_lt_of_le HRZ.out hb15.size)
            clear hb15
            obtain ⟨x0, x1, xf, xz⟩ := HX.out.v2
            obtain ⟨j0, j1, jf, jz⟩ := HI.out.v2
            obtain ⟨l0, l1, lf, lz⟩ := HO.out.v2
            obtain ⟨ta0, ta1, ta2, ta3, ta4⟩ := HTA.out.c5
            obtain ⟨ra0, ra1⟩ := HRA.out.c2
            have tz := HTZ.out
            have rz := HRZ.out
            go_wp2_with fail
            have HAD := Lib.hid (fun (u : World) (hu : Below w15.heap.size w15 u) => (by
              have m := HRM.out
              have n := HSO.out
              have e18 : (10 : Nat) ^ 18 = 1000000000000000000 := by decide
              exact addSpans11 u (HTB.out u (HB.out.trans (hu.mono HB.out.size))) UL UH r1 r2 ⟨by dsimp only; omega, by dsimp only; omega, n.2.1⟩ ⟨by dsimp only; omega, by dsimp only; omega, m.2.1⟩ ⟨by omega, by omega⟩ ⟨by omega, by omega⟩ : Calls Tryz.prog 11 #[.agg #[.string (txz UL), .string (txz UH)], .agg #[.string (txz r1), .string (txz r2)]] u (Ret (.tuple #[.agg #[.string (txz (UL + r1)), .string (txz (UH + r2))], .int .i64 0]) u)))
            refine wp_region_storegrow 11 10 _ (fun W' => ∃ W1, Below w15.heap.size w15 W1 ∧ W' = (W1.setCell ⟨W7.heap.size + 1, 0, none⟩ (.string (txz (UL + r1)))).setCell ⟨W7.heap.size + 1, 1, none⟩ (.string (txz (UH + r2)))) (by kernel_rfl) (by kernel_rfl) rfl (storegrow_free 9 (by kernel_rfl) rfl rfl) ?_
            apply Exists.intro
            refine ⟨fun Y => ?_, fun W1 hW1 => ?_, ?_⟩
            · simp only [headsOf, List.take_succ_cons, List.drop_succ_cons, List.take_zero, List.drop_zero, Nat.reduceSub, List.cons_append, List.nil_append]
              repeat go_big_quiet_step ((first | (go_at_call 12; exact Calls.later2 (HRS.out _)) | (go_at_call 11; exact Calls.later2 (HAD.out _ (Later2.below _)))))
              exact wpQuiet_nil rfl
            · refine ⟨(W1.setCell ⟨W7.heap.size + 1, 0, none⟩ (.string (txz (UL + r1)))).setCell ⟨W7.heap.size + 1, 1, none⟩ (.string (txz (UH + r2))), ?_, W1, hW1, rfl⟩
              obtain ⟨z0, z1, zf, zz⟩ := (HO.out.later hW1).v2
              clear x0 x1 xf xz j0 j1 jf jz l0 l1 lf lz
              clear ta0 ta1 ta2 ta3 ta4 ra0 ra1 tz rz
              go_simp
              first | done | rfl
            rintro W2 ⟨W1, hW1, rfl⟩
            simp only [Act.put, List.setIfInBounds_toArray, List.set_cons_succ, List.set_cons_zero, List.drop_succ_cons, List.drop_zero]
            clear x0 x1 xf xz j0 j1 jf jz l0 l1 lf lz
            clear ta0 ta1 ta2 ta3 ta4 ra0 ra1 tz rz
            clear HAD
            replace HB := Lib.hid (HB.out.trans (hW1.mono HB.out.size))
            replace HX := Lib.hid (HX.out.later hW1)
            replace HC := Lib.hid (HC.out.later hW1)
            replace HI := Lib.hid (HI.out.later hW1)
            replace HO := Lib.hid (HO.out.later hW1)
            replace HV := Lib.hid (HV.out.later hW1)
            replace H7 := Lib.hid (H7.out.trans (hW1.mono H7.out.size))
            clear hW1
            clear HTA HTZ HRA HRZ
            go_wp2_with fail
            go_roundw
            case rel =>
              exact ⟨k + 1, by omega, by go_num, by rw [HCR.out]; first | rfl | go_num, by rw [HOL.out], (HB.out.setCell (p := ⟨W7.heap.size + 1, 0, none⟩) (by have := HN1.out; have := HN2.out; dsimp only; omega) _).setCell (p := ⟨W7.heap.size + 1, 1, none⟩) (by have := HN1.out; have := HN2.out; dsimp only; omega) _, (HX.out.other (a := ⟨W7.heap.size + 1, 0, none⟩) (.string (txz (UL + r1))) (by have := HN1.out; have := HN2.out; dsimp only; omega)).other (a := ⟨W7.heap.size + 1, 1, none⟩) (.string (txz (UH + r2))) (by have := HN1.out; have := HN2.out; dsimp only; omega), (HC.out.other (a := ⟨W7.heap.size + 1, 0, none⟩) (.string (txz (UL + r1))) (by have := HN1.out; have := HN2.out; dsimp only; omega)).other (a := ⟨W7.heap.size + 1, 1, none⟩) (.string (txz (UH + r2))) (by have := HN1.out; have := HN2.out; dsimp only; omega), by rw [HIL.out, HIH.out, Int.add_zero, Int.add_zero]; exact (HI.out.other (a := ⟨W7.heap.size + 1, 0, none⟩) (.string (txz (UL + r1))) (by have := HN1.out; have := HN2.out; dsimp only; omega)).other (a := ⟨W7.heap.size + 1, 1, none⟩) (.string (txz (UH + r2))) (by have := HN1.out; have := HN2.out; dsimp only; omega), by rw [HUL.out, HUH.out]; exact (HO.out.set 0 (.string (txz (UL + r1)))).set 1 (.string (txz (UH + r2))), (H7.out.setCell (p := ⟨W7.heap.size + 1, 0, none⟩) (by have := HN1.out; have := HN2.out; dsimp only; omega) _).setCell (p := ⟨W7.heap.size + 1, 1, none⟩) (by have := HN1.out; have := HN2.out; dsimp only; omega) _⟩
            case measure => simp [intOf]; omega
          · have q1 : decide (tto ∈ ps) = false := decide_eq_false p
            have q2 : decide (tfr ∈ ps) = false := decide_eq_false q
            rw [q1, q2] at hin hou
            simp only [Bool.and_self, Bool.not_true, Bool.not_false, Bool.and_true, Bool.and_false] at hin hou
            rw [hin] at HIL HIH
            rw [hou] at HUL HUH
            rw [hin, hou] at HCR HOL
            simp only [if_true, if_false, Bool.false_eq_true, or_self, or_true, true_or] at HIL HIH HUL HUH HCR HOL
            clear p q hin hou
            obtain ⟨x0, x1, xf, xz⟩ := HX.out.v2
            obtain ⟨j0, j1, jf, jz⟩ := HI.out.v2
            obtain ⟨l0, l1, lf, lz⟩ := HO.out.v2
            obtain ⟨ta0, ta1, ta2, ta3, ta4⟩ := HTA.out.c5
            obtain ⟨ra0, ra1⟩ := HRA.out.c2
            have tz := HTZ.out
            have rz := HRZ.out
            go_wp2_with fail
            have HINL := Lib.hid (fun (X : Later wr) (x : Int) => HIN.out X.w (HB.out.trans (X.h.mono HB.out.size)) x)
            refine wp_region_head_later 16 (by kernel_rfl) (by kernel_rfl) ?_
            simp only [List.take_succ_cons, List.take_zero, List.drop_succ_cons, List.drop_zero]
            repeat go_big_quiet_step ((go_at_call 10; exact Calls.later_same (HINL.out _ _)))
            refine wpQuiet_nil ?_
            rintro w14 ⟨⟨_, hb14⟩, rfl⟩
            clear x0 x1 xf xz j0 j1 jf jz l0 l1 lf lz
            clear ta0 ta1 ta2 ta3 ta4 ra0 ra1 tz rz
            clear HINL
            replace HB := Lib.hid (HB.out.trans (hb14.mono HB.out.size))
            replace HX := Lib.hid (HX.out.later hb14)
            replace HC := Lib.hid (HC.out.later hb14)
            replace HI := Lib.hid (HI.out.later hb14)
            replace HO := Lib.hid (HO.out.later hb14)
            replace HV := Lib.hid (HV.out.later hb14)
            replace H7 := Lib.hid (H7.out.trans (hb14.mono H7.out.size))
            replace HTA := Lib.hid (HTA.out.below hb14 HTZ.out)
            replace HTZ := Lib.hid (Nat.lt_of_lt_of_le HTZ.out hb14.size)
            replace HRA := Lib.hid (HRA.out.below hb14 HRZ.out)
            replace HRZ := Lib.hid (Nat.lt_of_lt_of_le HRZ.out hb14.size)
            clear hb14
            obtain ⟨x0, x1, xf, xz⟩ := HX.out.v2
            obtain ⟨j0, j1, jf, jz⟩ := HI.out.v2
            obtain ⟨l0, l1, lf, lz⟩ := HO.out.v2
            obtain ⟨ta0, ta1, ta2, ta3, ta4⟩ := HTA.out.c5
            obtain ⟨ra0, ra1⟩ := HRA.out.c2
            have tz := HTZ.out
            have rz := HRZ.out
            go_wp2_with fail
            refine wp_region_later (by kernel_rfl) (by kernel_rfl) ?_
            repeat go_big_quiet_step (fail)
            refine wpQuiet_nil ?_
            rintro w15 ⟨⟨_, hb15⟩, rfl⟩
            clear x0 x1 xf xz j0 j1 jf jz l0 l1 lf lz
            clear ta0 ta1 ta2 ta3 ta4 ra0 ra1 tz rz
            replace HB := Lib.hid (HB.out.trans (hb15.mono HB.out.size))
            replace HX := Lib.hid (HX.out.later hb15)
            replace HC := Lib.hid (HC.out.later hb15)
            replace HI := Lib.hid (HI.out.later hb15)
            replace HO := Lib.hid (HO.out.later hb15)
            replace HV := Lib.hid (HV.out.later hb15)
            replace H7 := Lib.hid (H7.out.trans (hb15.mono H7.out.size))
            replace HTA := Lib.hid (HTA.out.below hb15 HTZ.out)
            replace HTZ := Lib.hid (Nat.lt_of_lt_of_le HTZ.out hb15.size)
            replace HRA := Lib.hid (HRA.out.below hb15 HRZ.out)
            replace HRZ := Lib.hid (Nat.lt_of_lt_of_le HRZ.out hb15.size)
            clear hb15
            obtain ⟨x0, x1, xf, xz⟩ := HX.out.v2
            obtain ⟨j0, j1, jf, jz⟩ := HI.out.v2
            obtain ⟨l0, l1, lf, lz⟩ := HO.out.v2
            obtain ⟨ta0, ta1, ta2, ta3, ta4⟩ := HTA.out.c5
            obtain ⟨ra0, ra1⟩ := HRA.out.c2
            have tz := HTZ.out
            have rz := HRZ.out
            go_wp2_with fail
            go_roundw
            case rel =>
              exact ⟨k + 1, by omega, by go_num, by rw [HCR.out], by rw [HOL.out], HB.out, HX.out, HC.out, by rw [HIL.out, HIH.out, Int.add_zero, Int.add_zero]; exact HI.out, by rw [HUL.out, HUH.out, Int.add_zero, Int.add_zero]; exact HO.out, H7.out⟩
            case measure => simp [intOf]; omega
      · obtain rfl : k = nt := by omega
        have HKL := Lib.hid (show b.ts.length = k from HL2.out)
        have hch := chS_of (ps := ps) HOK.out HTT.out HRL.out (show b.ts.length ≤ 8 by rw [HKL.out]; omega)
        have hcx := one_cross (ps := ps) (lo := lo) (hi := hi) HOK.out HTT.out HRL.out
        have hcz := none_cross (b := b) (ps := ps) (lo := lo) (hi := hi)
        rw [HKL.out] at hch hcx hcz
        have HCX := Lib.hid (fun (h : ((crs b ps k : Nat) : Int) = 1) => hcx (by omega))
        have HCZ := Lib.hid (fun (h : ((crs b ps k : Nat) : Int) = 0) => hcz (by omega))
        clear hcx hcz
        have hol := onl_le b ps k
        obtain ⟨IL, hq⟩ : ∃ x, sumC (inn b ps) Rg.lo rs k = x := ⟨_, rfl⟩
        rw [hq] at HSI HI hch
        clear hq
        obtain ⟨IH, hq⟩ : ∃ x, sumC (inn b ps) Rg.hi rs k = x := ⟨_, rfl⟩
        rw [hq] at HSI HI hch
        clear hq
        obtain ⟨UL, hq⟩ : ∃ x, sumC (oun b ps) Rg.lo rs k = x := ⟨_, rfl⟩
        rw [hq] at HSO HO hch
        clear hq
        obtain ⟨UH, hq⟩ : ∃ x, sumC (oun b ps) Rg.hi rs k = x := ⟨_, rfl⟩
        rw [hq] at HSO HO hch
        clear hq
        obtain ⟨cr, hq⟩ : ∃ x, ((crs b ps k : Nat) : Int) = x := ⟨_, rfl⟩
        rw [hq] at HCX HCZ ⊢
        clear hq hcr
        obtain ⟨on, hq⟩ : ∃ x, onl b ps k = x := ⟨_, rfl⟩
        rw [hq] at hol HCX ⊢
        clear hq
        have HSS := Lib.hid (fun (u : World) (hu : Below w.heap.size w u) => (by
          have m := HSI.out
          have n := HSO.out
          have e18 : (10 : Nat) ^ 18 = 1000000000000000000 := by decide
          exact subSpans13 u (HTB.out u hu) IL IH UL UH ⟨by dsimp only; omega, by dsimp only; omega, m.2.1⟩ ⟨by dsimp only; omega, by dsimp only; omega, n.2.1⟩ ⟨by omega, by omega⟩ ⟨by omega, by omega⟩ : Calls Tryz.prog 13 #[.agg #[.string (txz IL), .string (txz IH)], .agg #[.string (txz UL), .string (txz UH)]] u (Ret (.tuple #[.agg #[.string (txz (IL - UH)), .string (txz (IH - UL))], .int .i64 0]) u)))
        obtain ⟨SL, hq⟩ : ∃ x, IL - UH = x := ⟨_, rfl⟩
        rw [hq] at HSS hch
        clear hq
        obtain ⟨SH, hq⟩ : ∃ x, IH - UL = x := ⟨_, rfl⟩
        rw [hq] at HSS hch
        clear hq
        have HCH := Lib.hid hch
        have HSP0 := Lib.hid (HSP.out (by simpa using kz))
        have HZC := Lib.hid (fun (u : World) => zcheckSpan14 u SL SH (addK_int (by have := HCH.out.le; have := HCH.out.lo0; have := HCH.out.hi0; omega) (by have := HCH.out.le; have := HCH.out.lo0; have := HCH.out.hi0; omega)) (by have := HCH.out.le; have := HCH.out.lo0; have := HCH.out.hi0; omega) (by have := HCH.out.le; have := HCH.out.lo0; have := HCH.out.hi0; omega) HCH.out.le)
        have HZI := Lib.hid (fun (u : World) (z : Int) (h1 : SL ≤ z) (h2 : z ≤ SH) => (by
          have q1 := HCH.out.lo0
          have q2 := HCH.out.hi0
          have h := zin17 u z SL SH (addK_int (by omega) (by omega)) (addK_int (by omega) (by omega)) (by omega) (by omega) (by omega)
          rwa [decide_eq_true h1, decide_eq_true h2] at h : Calls Tryz.prog 17 #[.string (txz z), .agg #[.string (txz SL), .string (txz SH)]] u (Ret (.bool true) u)))
        have HFI := Lib.hid (fun (u : World) (z : Int) (h1 : SL ≤ z) (h2 : z ≤ SH) => (by
          have q1 := HCH.out.lo0
          have q2 := HCH.out.hi0
          exact fromInt18 u z (by omega) (by omega) : Calls Tryz.prog 18 #[.int .i64 z] u (Ret (.string (txz z)) u)))
        clear hch HSI HSO HN1 HN2
        obtain ⟨x0, x1, xf, xz⟩ := HX.out.v2
        obtain ⟨j0, j1, jf, jz⟩ := HI.out.v2
        obtain ⟨l0, l1, lf, lz⟩ := HO.out.v2
        go_wp2_with fail
        refine (HSS.out _ HB.out).mono ?_
        rintro e9 w9 ⟨rfl, hb9⟩
        clear x0 x1 xf xz j0 j1 jf jz l0 l1 lf lz HSS HI HO H7
        have hba := alloc_below w9 (.cells #[.string (txz SL), .string (txz SH)] 39)
        have hb := hb9.trans (hba.mono hb9.size)
        replace HB := Lib.hid (HB.out.trans (hb.mono HB.out.size))
        replace HX := Lib.hid (HX.out.later hb)
        replace HC := Lib.hid (HC.out.later hb)
        replace HV := Lib.hid (HV.out.later hb)
        have HS := Lib.hid (Box.new w9 #[.string (txz SL), .string (txz SH)] 39)
        clear hb9 hb hba
        obtain ⟨W9, hW9⟩ : ∃ W, w9.alloc (.cells #[.string (txz SL), .string (txz SH)] 39) = W := ⟨_, rfl⟩
        rw [hW9] at HB HX HC HV HS
        obtain ⟨s0, s1, sf, sz⟩ := HS.out.v2
        go_wp2_with fail
        refine (HZC.out _).mono ?_
        rintro e10 w10 ⟨rfl, hb⟩
        clear s0 s1 sf sz HZC hW9
        replace HB := Lib.hid (HB.out.trans (hb.mono HB.out.size))
        replace HX := Lib.hid (HX.out.later hb)
        replace HC := Lib.hid (HC.out.later hb)
        replace HV := Lib.hid (HV.out.later hb)
        replace HS := Lib.hid (HS.out.later hb)
        clear hb
        obtain ⟨pS, hpS⟩ : ∃ p, w9.heap.size = p := ⟨_, rfl⟩
        rw [hpS] at HS ⊢
        obtain ⟨x0, x1, xf, xz⟩ := HX.out.v2
        go_wp2_with fail
        clear x0 x1 xf xz
        go_loopw [189] (fun i wr => ∃ j : Nat, j ≤ k ∧ i = .int .i64 (j : Int) ∧ Below w.heap.size w wr ∧ Box wr w.heap.size 25 [.slice a1 n1 c1, .slice a2 k c2] ∧ Box wr w7.heap.size 34 [.int .i64 lo, .int .i64 hi] ∧ Box wr pS 39 [.string (txz SL), .string (txz SH)] ∧ Below w10.heap.size w10 wr) (fun i _ => k - (intOf i).toNat)
        case atStart => exact ⟨0, Nat.zero_le _, rfl, HB.out, HX.out, HC.out, HS.out, Below.refl _ _⟩
        case round =>
          obtain ⟨j, hj, rfl, hbe, hbx, hbc, hbs, hb10⟩ := hrel
          have HV2 := Lib.hid (HV.out.later hb10)
          clear HB HX HC HS HV
          have HV := Lib.hid HV2.out
          have HB := Lib.hid hbe
          have HX := Lib.hid hbx
          have HC := Lib.hid hbc
          have HS := Lib.hid hbs
          have H10 := Lib.hid hb10
          clear hbe hbx hbc hbs hb10 HV2
          by_cases hlt : j < k
          · obtain ⟨x0, x1, xf, xz⟩ := HX.out.v2
            go_wp2_with fail
            refine (HWI.out _ HB.out j (by rw [HKL.out]; exact hlt) _).mono ?_
            rintro e33 w33 ⟨vl, ms, rfl, hsl, hms, hb⟩
            obtain ⟨al, cl, el⟩ : ∃ a c, vl = .slice a k c := by obtain ⟨a, c, e, _⟩ := id hsl; exact ⟨a, c, by rw [e, hms.len, HKL.out]⟩
            subst el
            have HL := Lib.hid hsl
            have HMS := Lib.hid hms
            clear hsl hms x0 x1 xf xz
            replace HB := Lib.hid (HB.out.trans (hb.mono HB.out.size))
            replace HX := Lib.hid (HX.out.later hb)
            replace HC := Lib.hid (HC.out.later hb)
            replace HS := Lib.hid (HS.out.later hb)
            replace HV := Lib.hid (HV.out.later hb)
            replace H10 := Lib.hid (H10.out.trans (hb.mono H10.out.size))
            clear hb
            obtain ⟨x0, x1, xf, xz⟩ := HX.out.v2
            go_wp2_with fail
            refine (HGN.out _ HB.out _ ms HL.out HMS.out).mono ?_
            rintro e36 w36 ⟨rfl, hb⟩
            clear x0 x1 xf xz HL
            replace HB := Lib.hid (HB.out.trans (hb.mono HB.out.size))
            replace HX := Lib.hid (HX.out.later hb)
            replace HC := Lib.hid (HC.out.later hb)
            replace HS := Lib.hid (HS.out.later hb)
            replace HV := Lib.hid (HV.out.later hb)
            replace H10 := Lib.hid (H10.out.trans (hb.mono H10.out.size))
            clear hb
            obtain ⟨hg1, hg2⟩ := HCH.out.gain ms HMS.out
            obtain ⟨hh1, hh2⟩ := (HSP0.out).2.2 ms HMS.out
            have kg1 : decide (gain ps b.ts ms < lo) = false := decide_eq_false (by dsimp only at hh1; omega)
            have kg2 : decide (hi < gain ps b.ts ms) = false := decide_eq_false (by dsimp only at hh2; omega)
            clear hh1 hh2
            generalize gain ps b.ts ms = g at *
            have HF1 := Lib.hid (fun (u : World) => HFI.out u g hg1 hg2)
            have HZ1 := Lib.hid (fun (u : World) => HZI.out u g hg1 hg2)
            clear hg1 hg2 HMS
            obtain ⟨s0, s1, sf, sz⟩ := HS.out.v2
            obtain ⟨c0, c1', cf, cz⟩ := HC.out.v2
            go_wp2_with fail
            refine wp_region_later (by kernel_rfl) (by kernel_rfl) ?_
            repeat go_big_quiet_step ((first | (go_at_call 18; exact Calls.later (HF1.out _)) | (go_at_call 17; exact Calls.later (HZ1.out _))))
            refine wpQuiet_nil ?_
            rintro w37 ⟨⟨_, hb⟩, rfl⟩
            clear s0 s1 sf sz c0 c1' cf cz HF1 HZ1
            replace HB := Lib.hid (HB.out.trans (hb.mono HB.out.size))
            replace HX := Lib.hid (HX.out.later hb)
            replace HC := Lib.hid (HC.out.later hb)
            replace HS := Lib.hid (HS.out.later hb)
            replace HV := Lib.hid (HV.out.later hb)
            replace H10 := Lib.hid (H10.out.trans (hb.mono H10.out.size))
            clear hb
            go_wp2_with fail
            go_roundw
            case rel => exact ⟨j + 1, by omega, by go_num, HB.out, HX.out, HC.out, HS.out, H10.out⟩
            case measure => simp [intOf]; omega
          · obtain ⟨⟨m1, a1', e1⟩, ⟨m2, a2', e2⟩, _⟩ := id HSP0.out
            have g1 := HCH.out.gain m1 a1'
            have g2 := HCH.out.gain m2 a2'
            dsimp only at e1 e2
            rw [e1] at g1
            rw [e2] at g2
            have HF1 := Lib.hid (fun (u : World) => HFI.out u lo g1.1 g1.2)
            have HZ1 := Lib.hid (fun (u : World) => HZI.out u lo g1.1 g1.2)
            have HF2 := Lib.hid (fun (u : World) => HFI.out u hi g2.1 g2.2)
            have HZ2 := Lib.hid (fun (u : World) => HZI.out u hi g2.1 g2.2)
            clear e1 e2 a1' a2' g1 g2
            by_cases hc1 : cr = 1
            · have k1 : (cr == 1) = true := beq_iff_eq.2 hc1
              have k0 : (cr == 0) = false := beq_eq_false_iff_ne.2 (by omega)
              by_cases ho : 0 ≤ on
              · obtain ⟨i, hon, hik, hri⟩ := HCX.out hc1 ho HSP0.out
                subst hon
                have k2 : decide (0 ≤ (i : Int)) = true := decide_eq_true ho
                obtain ⟨a3', c3', e3', -, hA3⟩ := id HV.out
                injection e3' with e1 e2 e3
                obtain ⟨b3, o3, heb, hbb, hcells⟩ := hA3 (by rw [HRL.out, HKL.out]; omega)
                rw [← e1] at heb
                subst heb
                have hrk : rs[i]'(by rw [HRL.out, HKL.out]; exact hik) = rgA rs i := by unfold rgA; rw [List.getD_eq_getElem?_getD, List.getElem?_eq_getElem (by rw [HRL.out, HKL.out]; exact hik)]; rfl
                have hra := hcells i (by rw [HRL.out, HKL.out]; exact hik)
                rw [hrk, hri] at hra
                obtain ⟨ra0, ra1⟩ := hra.c2
                clear hra hrk hri hcells hA3 e1 e2 e3 hc1
                obtain ⟨s0, s1, sf, sz⟩ := HS.out.v2
                obtain ⟨c0, c1', cf, cz⟩ := HC.out.v2
                go_wp2_with fail
                refine wp_region_later (by kernel_rfl) (by kernel_rfl) ?_
                repeat go_big_quiet_step (fail)
                refine wpQuiet_nil ?_
                rintro w42 ⟨⟨_, hb⟩, rfl⟩
                clear s0 s1 sf sz c0 c1' cf cz
                replace HB := Lib.hid (HB.out.trans (hb.mono HB.out.size))
                replace HC := Lib.hid (HC.out.later hb)
                replace HS := Lib.hid (HS.out.later hb)
                clear hb
                obtain ⟨s0, s1, sf, sz⟩ := HS.out.v2
                obtain ⟨c0, c1', cf, cz⟩ := HC.out.v2
                go_wp2_with fail
                have HRL2 := Lib.hid (fun X : Later _ => HR.out X.w (HB.out.trans (X.h.mono HB.out.size)))
                refine wp_region_later (by kernel_rfl) (by kernel_rfl) ?_
                repeat go_big_quiet_step ((first | (go_at_call 18; first | with_reducible exact Calls.later (HF1.out _) | with_reducible exact Calls.later (HF2.out _)) | (go_at_call 17; first | with_reducible exact Calls.later (HZ1.out _) | with_reducible exact Calls.later (HZ2.out _)) | (go_at_call 7; exact Calls.later (HRL2.out _))))
                refine wpQuiet_nil ?_
                rintro w44 ⟨⟨_, hb⟩, rfl⟩
                replace HB := Lib.hid (HB.out.trans (hb.mono HB.out.size))
                clear hb
                go_wp2_with fail
                go_ret
                exact ⟨rfl, HB.out⟩
              · have k2 : decide (0 ≤ on) = false := decide_eq_false ho
                clear hc1
                obtain ⟨s0, s1, sf, sz⟩ := HS.out.v2
                obtain ⟨c0, c1', cf, cz⟩ := HC.out.v2
                go_wp2_with fail
                refine wp_region_later (by kernel_rfl) (by kernel_rfl) ?_
                repeat go_big_quiet_step (fail)
                refine wpQuiet_nil ?_
                rintro w42 ⟨⟨_, hb⟩, rfl⟩
                clear s0 s1 sf sz c0 c1' cf cz
                replace HB := Lib.hid (HB.out.trans (hb.mono HB.out.size))
                replace HC := Lib.hid (HC.out.later hb)
                replace HS := Lib.hid (HS.out.later hb)
                clear hb
                obtain ⟨s0, s1, sf, sz⟩ := HS.out.v2
                obtain ⟨c0, c1', cf, cz⟩ := HC.out.v2
                go_wp2_with fail
                have HRL2 := Lib.hid (fun X : Later _ => HR.out X.w (HB.out.trans (X.h.mono HB.out.size)))
                refine wp_region_later (by kernel_rfl) (by kernel_rfl) ?_
                repeat go_big_quiet_step ((first | (go_at_call 18; first | with_reducible exact Calls.later (HF1.out _) | with_reducible exact Calls.later (HF2.out _)) | (go_at_call 17; first | with_reducible exact Calls.later (HZ1.out _) | with_reducible exact Calls.later (HZ2.out _)) | (go_at_call 7; exact Calls.later (HRL2.out _))))
                refine wpQuiet_nil ?_
                rintro w44 ⟨⟨_, hb⟩, rfl⟩
                replace HB := Lib.hid (HB.out.trans (hb.mono HB.out.size))
                clear hb
                go_wp2_with fail
                go_ret
                exact ⟨rfl, HB.out⟩
            · have k1 : (cr == 1) = false := beq_eq_false_iff_ne.2 hc1
              by_cases hc0 : cr = 0
              · have k0 : (cr == 0) = true := beq_iff_eq.2 hc0
                obtain ⟨hlo, hhi⟩ := HCZ.out hc0 HSP0.out
                have kl : (lo != 0) = false := by rw [hlo]; rfl
                have kh : (hi != 0) = false := by rw [hhi]; rfl
                clear hlo hhi hc0 hc1
                obtain ⟨s0, s1, sf, sz⟩ := HS.out.v2
                obtain ⟨c0, c1', cf, cz⟩ := HC.out.v2
                go_wp2_with fail
                refine wp_region_later (by kernel_rfl) (by kernel_rfl) ?_
                repeat go_big_quiet_step (fail)
                refine wpQuiet_nil ?_
                rintro w42 ⟨⟨_, hb⟩, rfl⟩
                clear s0 s1 sf sz c0 c1' cf cz
                replace HB := Lib.hid (HB.out.trans (hb.mono HB.out.size))
                replace HC := Lib.hid (HC.out.later hb)
                replace HS := Lib.hid (HS.out.later hb)
                clear hb
                obtain ⟨s0, s1, sf, sz⟩ := HS.out.v2
                obtain ⟨c0, c1', cf, cz⟩ := HC.out.v2
                go_wp2_with fail
                have HRL2 := Lib.hid (fun X : Later _ => HR.out X.w (HB.out.trans (X.h.mono HB.out.size)))
                refine wp_region_later (by kernel_rfl) (by kernel_rfl) ?_
                repeat go_big_quiet_step ((first | (go_at_call 18; first | with_reducible exact Calls.later (HF1.out _) | with_reducible exact Calls.later (HF2.out _)) | (go_at_call 17; first | with_reducible exact Calls.later (HZ1.out _) | with_reducible exact Calls.later (HZ2.out _)) | (go_at_call 7; exact Calls.later (HRL2.out _))))
                refine wpQuiet_nil ?_
                rintro w44 ⟨⟨_, hb⟩, rfl⟩
                replace HB := Lib.hid (HB.out.trans (hb.mono HB.out.size))
                clear hb
                go_wp2_with fail
                go_ret
                exact ⟨rfl, HB.out⟩
              · have k0 : (cr == 0) = false := beq_eq_false_iff_ne.2 hc0
                clear hc0 hc1
                obtain ⟨s0, s1, sf, sz⟩ := HS.out.v2
                obtain ⟨c0, c1', cf, cz⟩ := HC.out.v2
                go_wp2_with fail
                refine wp_region_later (by kernel_rfl) (by kernel_rfl) ?_
                repeat go_big_quiet_step (fail)
                refine wpQuiet_nil ?_
                rintro w42 ⟨⟨_, hb⟩, rfl⟩
                clear s0 s1 sf sz c0 c1' cf cz
                replace HB := Lib.hid (HB.out.trans (hb.mono HB.out.size))
                replace HC := Lib.hid (HC.out.later hb)
                replace HS := Lib.hid (HS.out.later hb)
                clear hb
                obtain ⟨s0, s1, sf, sz⟩ := HS.out.v2
                obtain ⟨c0, c1', cf, cz⟩ := HC.out.v2
                go_wp2_with fail
                have HRL2 := Lib.hid (fun X : Later _ => HR.out X.w (HB.out.trans (X.h.mono HB.out.size)))
                refine wp_region_later (by kernel_rfl) (by kernel_rfl) ?_
                repeat go_big_quiet_step ((first | (go_at_call 18; first | with_reducible exact Calls.later (HF1.out _) | with_reducible exact Calls.later (HF2.out _)) | (go_at_call 17; first | with_reducible exact Calls.later (HZ1.out _) | with_reducible exact Calls.later (HZ2.out _)) | (go_at_call 7; exact Calls.later (HRL2.out _))))
                refine wpQuiet_nil ?_
                rintro w44 ⟨⟨_, hb⟩, rfl⟩
                replace HB := Lib.hid (HB.out.trans (hb.mono HB.out.size))
                clear hb
                go_wp2_with fail
                go_ret
                exact ⟨rfl, HB.out⟩
  · have ke : (kc == 0) = false := by simpa [bne] using kz
    go_wp2_with fail
    go_loopw [11, 12, 89] (fun cr on i wr => ∃ k : Nat, k ≤ nt ∧ i = .int .i64 (k : Int) ∧ cr = .int .i64 ((crs b ps k : Nat) : Int) ∧ on = .int .i64 (onl b ps k) ∧ Below w.heap.size w wr ∧ Box wr w.heap.size 25 [.slice a1 n1 c1, .slice a2 nt c2] ∧ Box wr w7.heap.size 34 [.int .i64 lo, .int .i64 hi] ∧ Box wr W7.heap.size 39 [.string (txz (sumC (inn b ps) Rg.lo rs k)), .string (txz (sumC (inn b ps) Rg.hi rs k))] ∧ Box wr (W7.heap.size + 1) 39 [.string (txz (sumC (oun b ps) Rg.lo rs k)), .string (txz (sumC (oun b ps) Rg.hi rs k))] ∧ Below W7.heap.size W7 wr) (fun _ _ i _ => nt - (intOf i).toNat)
    case atStart => exact ⟨0, Nat.zero_le _, rfl, rfl, rfl, HBn.out, HXn.out, HCn.out, by rw [show (⟨#[48]⟩ : ByteArray) = txz 0 from HZ0.out] at HIn; exact HIn.out, by rw [show (⟨#[48]⟩ : ByteArray) = txz 0 from HZ0.out] at HOn; exact HOn.out, HB8.out⟩
    case round =>
      obtain ⟨k, hk, rfl, rfl, rfl, hbe, hbx, hbc, hbi, hbo, hb7⟩ := hrel
      clear HB x0 x1 xf xz y0 y1 yf yz
      have HB := Lib.hid hbe
      have HX := Lib.hid hbx
      have HC := Lib.hid hbc
      have HI := Lib.hid hbi
      have HO := Lib.hid hbo
      have H7 := Lib.hid hb7
      have HV := Lib.hid (HV7.out.later hb7)
      have HSI := Lib.hid (sumC_ok HOK.out HTT.out HRL.out (inn b ps) k (by rw [HL2.out]; exact hk))
      have HSO := Lib.hid (sumC_ok HOK.out HTT.out HRL.out (oun b ps) k (by rw [HL2.out]; exact hk))
      have hcr := crs_le b ps k
      clear hbe hbx hbc hbi hbo hb7
      by_cases hlt : k < nt
      · have hkt : k < b.ts.length := by rw [HL2.out]; exact hlt
        obtain ⟨-, ⟨a2', c2', e2', -, hA2⟩, -⟩ := HBK.out wr HB.out
        injection e2' with e1 e2 e3
        obtain ⟨b2, o2, hea, hbb, hcells⟩ := hA2 (by omega)
        rw [← e1] at hea
        subst hea
        have HTA := Lib.hid (hcells k hkt)
        have HTZ := Lib.hid hbb
        clear hcells hA2 hbb e1 e2 e3
        obtain ⟨a3', c3', e3', -, hA3⟩ := id HV.out
        injection e3' with e1 e2 e3
        obtain ⟨b3, o3, heb, hbb, hcells⟩ := hA3 (by rw [HRL.out]; omega)
        rw [← e1] at heb
        subst heb
        have hrk : rs[k]'(by rw [HRL.out]; exact hkt) = rgA rs k := by unfold rgA; rw [List.getD_eq_getElem?_getD, List.getElem?_eq_getElem (by rw [HRL.out]; exact hkt)]; rfl
        have hra := hcells k (by rw [HRL.out]; exact hkt)
        rw [hrk] at hra
        have HRA := Lib.hid hra
        have HRZ := Lib.hid hbb
        have HRM := Lib.hid (tight_ok HOK.out HTT.out hkt HRL.out)
        clear hcells hA3 hbb hra hrk e1 e2 e3
        obtain ⟨t, ht⟩ : ∃ t, b.ts[k] = t := ⟨_, rfl⟩
        have hin : inn b ps k = (decide (t.to ∈ ps) && !decide (t.fr ∈ ps)) := by unfold inn; rw [List.getElem?_eq_getElem hkt, ht]
        have hou : oun b ps k = (decide (t.fr ∈ ps) && !decide (t.to ∈ ps)) := by unfold oun; rw [List.getElem?_eq_getElem hkt, ht]
        rw [ht] at HTA
        clear ht hkt
        have HSL := Lib.hid (fun (c : Nat → Bool) (f : Rg → Int) => sumC_succ c f rs k)
        obtain ⟨r, hr⟩ : ∃ r, rgA rs k = r := ⟨_, rfl⟩
        rw [hr] at HRA HRM HSL
        clear hr
        obtain ⟨r1, r2⟩ := r
        obtain ⟨tid, tfr, tto, tm⟩ := t
        obtain ⟨tlo, thi⟩ := tm
        dsimp only [Tk.enc, Rg.enc] at hin hou HTA HRA HRM
        have HCR := Lib.hid (show crs b ps (k + 1) = if (inn b ps k = true ∨ oun b ps k = true) then crs b ps k + 1 else crs b ps k from rfl)
        have HOL := Lib.hid (show onl b ps (k + 1) = if oun b ps k = true then -1 else if inn b ps k = true then (k : Int) else onl b ps k from rfl)
        have HIL := Lib.hid (HSL.out (inn b ps) Rg.lo)
        have HIH := Lib.hid (HSL.out (inn b ps) Rg.hi)
        have HUL := Lib.hid (HSL.out (oun b ps) Rg.lo)
        have HUH := Lib.hid (HSL.out (oun b ps) Rg.hi)
        clear HSL
        obtain ⟨IL, hq⟩ : ∃ x, sumC (inn b ps) Rg.lo rs k = x := ⟨_, rfl⟩
        rw [hq] at HSI HIL HI
        clear hq
        obtain ⟨IH, hq⟩ : ∃ x, sumC (inn b ps) Rg.hi rs k = x := ⟨_, rfl⟩
        rw [hq] at HSI HIH HI
        clear hq
        obtain ⟨UL, hq⟩ : ∃ x, sumC (oun b ps) Rg.lo rs k = x := ⟨_, rfl⟩
        rw [hq] at HSO HUL HO
        clear hq
        obtain ⟨UH, hq⟩ : ∃ x, sumC (oun b ps) Rg.hi rs k = x := ⟨_, rfl⟩
        rw [hq] at HSO HUH HO
        clear hq
        obtain ⟨cr, hq⟩ : ∃ x, crs b ps k = x := ⟨_, rfl⟩
        rw [hq] at HCR hcr ⊢
        clear hq
        obtain ⟨on, hq⟩ : ∃ x, onl b ps k = x := ⟨_, rfl⟩
        rw [hq] at HOL ⊢
        clear hq
        have d3 : decide (r2 < r1) = false := decide_eq_false (by have := HRM.out; omega)
        have d4 : decide (r1 < 0) = false := decide_eq_false (by have := HRM.out; omega)
        have d5 : decide (999999999 < r2) = false := decide_eq_false (by have := HRM.out; omega)
        have HRS := Lib.hid (fun (u : World) => routeSpan12 u r1 r2 (by have := HRM.out; omega) (by have := HRM.out; omega))
        have hcr' : (IntKind.i64.wrap ((cr : Int) + 1)) = ((cr + 1 : Nat) : Int) := by rw [IntWalk.i64_in _ (by omega)]; omega
        by_cases p : tto ∈ ps
        · by_cases q : tfr ∈ ps
          · have q1 : decide (tto ∈ ps) = true := decide_eq_true p
            have q2 : decide (tfr ∈ ps) = true := decide_eq_true q
            rw [q1, q2] at hin hou
            simp only [Bool.and_self, Bool.not_true, Bool.not_false, Bool.and_true, Bool.and_false] at hin hou
            rw [hin] at HIL HIH
            rw [hou] at HUL HUH
            rw [hin, hou] at HCR HOL
            simp only [if_true, if_false, Bool.false_eq_true, or_self, or_true, true_or] at HIL HIH HUL HUH HCR HOL
            clear p q hin hou
            obtain ⟨x0, x1, xf, xz⟩ := HX.out.v2
            obtain ⟨j0, j1, jf, jz⟩ := HI.out.v2
            obtain ⟨l0, l1, lf, lz⟩ := HO.out.v2
            obtain ⟨ta0, ta1, ta2, ta3, ta4⟩ := HTA.out.c5
            obtain ⟨ra0, ra1⟩ := HRA.out.c2
            have tz := HTZ.out
            have rz := HRZ.out
            go_wp2_with fail
            have HINL := Lib.hid (fun (X : Later wr) (x : Int) => HIN.out X.w (HB.out.trans (X.h.mono HB.out.size)) x)
            refine wp_region_head_later 16 (by kernel_rfl) (by kernel_rfl) ?_
            simp only [List.take_succ_cons, List.take_zero, List.drop_succ_cons, List.drop_zero]
            repeat go_big_quiet_step ((go_at_call 10; exact Calls.later_same (HINL.out _ _)))
            refine wpQuiet_nil ?_
            rintro w14 ⟨⟨_, hb14⟩, rfl⟩
            clear x0 x1 xf xz j0 j1 jf jz l0 l1 lf lz
            clear ta0 ta1 ta2 ta3 ta4 ra0 ra1 tz rz
            clear HINL
            replace HB := Lib.hid (HB.out.trans (hb14.mono HB.out.size))
            replace HX := Lib.hid (HX.out.later hb14)
            replace HC := Lib.hid (HC.out.later hb14)
            replace HI := Lib.hid (HI.out.later hb14)
            replace HO := Lib.hid (HO.out.later hb14)
            replace HV := Lib.hid (HV.out.later hb14)
            replace H7 := Lib.hid (H7.out.trans (hb14.mono H7.out.size))
            replace HTA := Lib.hid (HTA.out.below hb14 HTZ.out)
            replace HTZ := Lib.hid (Nat.lt_of_lt_of_le HTZ.out hb14.size)
            replace HRA := Lib.hid (HRA.out.below hb14 HRZ.out)
            replace HRZ := Lib.hid (Nat.lt_of_lt_of_le HRZ.out hb14.size)
            clear hb14
            obtain ⟨x0, x1, xf, xz⟩ := HX.out.v2
            obtain ⟨j0, j1, jf, jz⟩ := HI.out.v2
            obtain ⟨l0, l1, lf, lz⟩ := HO.out.v2
            obtain ⟨ta0, ta1, ta2, ta3, ta4⟩ := HTA.out.c5
            obtain ⟨ra0, ra1⟩ := HRA.out.c2
            have tz := HTZ.out
            have rz := HRZ.out
            go_wp2_with fail
            refine wp_region_later (by kernel_rfl) (by kernel_rfl) ?_
            repeat go_big_quiet_step (fail)
            refine wpQuiet_nil ?_
            rintro w15 ⟨⟨_, hb15⟩, rfl⟩
            clear x0 x1 xf xz j0 j1 jf jz l0 l1 lf lz
            clear ta0 ta1 ta2 ta3 ta4 ra0 ra1 tz rz
            replace HB := Lib.hid (HB.out.trans (hb15.mono HB.out.size))
            replace HX := Lib.hid (HX.out.later hb15)
            replace HC := Lib.hid (HC.out.later hb15)
            replace HI := Lib.hid (HI.out.later hb15)
            replace HO := Lib.hid (HO.out.later hb15)
            replace HV := Lib.hid (HV.out.later hb15)
            replace H7 := Lib.hid (H7.out.trans (hb15.mono H7.out.size))
            replace HTA := Lib.hid (HTA.out.below hb15 HTZ.out)
            replace HTZ := Lib.hid (Nat.lt_of_lt_of_le HTZ.out hb15.size)
            replace HRA := Lib.hid (HRA.out.below hb15 HRZ.out)
            replace HRZ := Lib.hid (Nat.lt_of_lt_of_le HRZ.out hb15.size)
            clear hb15
            obtain ⟨x0, x1, xf, xz⟩ := HX.out.v2
            obtain ⟨j0, j1, jf, jz⟩ := HI.out.v2
            obtain ⟨l0, l1, lf, lz⟩ := HO.out.v2
            obtain ⟨ta0, ta1, ta2, ta3, ta4⟩ := HTA.out.c5
            obtain ⟨ra0, ra1⟩ := HRA.out.c2
            have tz := HTZ.out
            have rz := HRZ.out
            go_wp2_with fail
            go_roundw
            case rel =>
              exact ⟨k + 1, by omega, by go_num, by rw [HCR.out], by rw [HOL.out], HB.out, HX.out, HC.out, by rw [HIL.out, HIH.out, Int.add_zero, Int.add_zero]; exact HI.out, by rw [HUL.out, HUH.out, Int.add_zero, Int.add_zero]; exact HO.out, H7.out⟩
            case measure => simp [intOf]; omega
          · have q1 : decide (tto ∈ ps) = true := decide_eq_true p
            have q2 : decide (tfr ∈ ps) = false := decide_eq_false q
            rw [q1, q2] at hin hou
            simp only [Bool.and_self, Bool.not_true, Bool.not_false, Bool.and_true, Bool.and_false] at hin hou
            rw [hin] at HIL HIH
            rw [hou] at HUL HUH
            rw [hin, hou] at HCR HOL
            simp only [if_true, if_false, Bool.false_eq_true, or_self, or_true, true_or] at HIL HIH HUL HUH HCR HOL
            clear p q hin hou
            obtain ⟨x0, x1, xf, xz⟩ := HX.out.v2
            obtain ⟨j0, j1, jf, jz⟩ := HI.out.v2
            obtain ⟨l0, l1, lf, lz⟩ := HO.out.v2
            obtain ⟨ta0, ta1, ta2, ta3, ta4⟩ := HTA.out.c5
            obtain ⟨ra0, ra1⟩ := HRA.out.c2
            have tz := HTZ.out
            have rz := HRZ.out
            go_wp2_with fail
            have HINL := Lib.hid (fun (X : Later wr) (x : Int) => HIN.out X.w (HB.out.trans (X.h.mono HB.out.size)) x)
            refine wp_region_head_later 16 (by kernel_rfl) (by kernel_rfl) ?_
            simp only [List.take_succ_cons, List.take_zero, List.drop_succ_cons, List.drop_zero]
            repeat go_big_quiet_step ((go_at_call 10; exact Calls.later_same (HINL.out _ _)))
            refine wpQuiet_nil ?_
            rintro w14 ⟨⟨_, hb14⟩, rfl⟩
            clear x0 x1 xf xz j0 j1 jf jz l0 l1 lf lz
            clear ta0 ta1 ta2 ta3 ta4 ra0 ra1 tz rz
            clear HINL
            replace HB := Lib.hid (HB.out.trans (hb14.mono HB.out.size))
            replace HX := Lib.hid (HX.out.later hb14)
            replace HC := Lib.hid (HC.out.later hb14)
            replace HI := Lib.hid (HI.out.later hb14)
            replace HO := Lib.hid (HO.out.later hb14)
            replace HV := Lib.hid (HV.out.later hb14)
            replace H7 := Lib.hid (H7.out.trans (hb14.mono H7.out.size))
            replace HTA := Lib.hid (HTA.out.below hb14 HTZ.out)
            replace HTZ := Lib.hid (Nat.lt_of_lt_of_le HTZ.out hb14.size)
            replace HRA := Lib.hid (HRA.out.below hb14 HRZ.out)
            replace HRZ := Lib.hid (Nat.lt_of_lt_of_le HRZ.out hb14.size)
            clear hb14
            obtain ⟨x0, x1, xf, xz⟩ := HX.out.v2
            obtain ⟨j0, j1, jf, jz⟩ := HI.out.v2
            obtain ⟨l0, l1, lf, lz⟩ := HO.out.v2
            obtain ⟨ta0, ta1, ta2, ta3, ta4⟩ := HTA.out.c5
            obtain ⟨ra0, ra1⟩ := HRA.out.c2
            have tz := HTZ.out
            have rz := HRZ.out
            go_wp2_with fail
            refine wp_region_later (by kernel_rfl) (by kernel_rfl) ?_
            repeat go_big_quiet_step (fail)
            refine wpQuiet_nil ?_
            rintro w15 ⟨⟨_, hb15⟩, rfl⟩
            clear x0 x1 xf xz j0 j1 jf jz l0 l1 lf lz
            clear ta0 ta1 ta2 ta3 ta4 ra0 ra1 tz rz
            replace HB := Lib.hid (HB.out.trans (hb15.mono HB.out.size))
            replace HX := Lib.hid (HX.out.later hb15)
            replace HC := Lib.hid (HC.out.later hb15)
            replace HI := Lib.hid (HI.out.later hb15)
            replace HO := Lib.hid (HO.out.later hb15)
            replace HV := Lib.hid (HV.out.later hb15)
            replace H7 := Lib.hid (H7.out.trans (hb15.mono H7.out.size))
            replace HTA := Lib.hid (HTA.out.below hb15 HTZ.out)
            replace HTZ := Lib.hid (Nat.lt_of_lt_of_le HTZ.out hb15.size)
            replace HRA := Lib.hid (HRA.out.below hb15 HRZ.out)
            replace HRZ := Lib.hid (Nat.lt_of_lt_of_le HRZ.out hb15.size)
            clear hb15
            obtain ⟨x0, x1, xf, xz⟩ := HX.out.v2
            obtain ⟨j0, j1, jf, jz⟩ := HI.out.v2
            obtain ⟨l0, l1, lf, lz⟩ := HO.out.v2
            obtain ⟨ta0, ta1, ta2, ta3, ta4⟩ := HTA.out.c5
            obtain ⟨ra0, ra1⟩ := HRA.out.c2
            have tz := HTZ.out
            have rz := HRZ.out
            go_wp2_with fail
            have HAD := Lib.hid (fun (u : World) (hu : Below w15.heap.size w15 u) => (by
              have m := HRM.out
              have n := HSI.out
              have e18 : (10 : Nat) ^ 18 = 1000000000000000000 := by decide
              exact addSpans11 u (HTB.out u (HB.out.trans (hu.mono HB.out.size))) IL IH r1 r2 ⟨by dsimp only; omega, by dsimp only; omega, n.2.1⟩ ⟨by dsimp only; omega, by dsimp only; omega, m.2.1⟩ ⟨by omega, by omega⟩ ⟨by omega, by omega⟩ : Calls Tryz.prog 11 #[.agg #[.string (txz IL), .string (txz IH)], .agg #[.string (txz r1), .string (txz r2)]] u (Ret (.tuple #[.agg #[.string (txz (IL + r1)), .string (txz (IH + r2))], .int .i64 0]) u)))
            refine wp_region_storegrow 11 10 _ (fun W' => ∃ W1, Below w15.heap.size w15 W1 ∧ W' = (W1.setCell ⟨W7.heap.size, 0, none⟩ (.string (txz (IL + r1)))).setCell ⟨W7.heap.size, 1, none⟩ (.string (txz (IH + r2)))) (by kernel_rfl) (by kernel_rfl) rfl (storegrow_free 9 (by kernel_rfl) rfl rfl) ?_
            apply Exists.intro
            refine ⟨fun Y => ?_, fun W1 hW1 => ?_, ?_⟩
            · simp only [headsOf, List.take_succ_cons, List.drop_succ_cons, List.take_zero, List.drop_zero, Nat.reduceSub, List.cons_append, List.nil_append]
              repeat go_big_quiet_step ((first | (go_at_call 12; exact Calls.later2 (HRS.out _)) | (go_at_call 11; exact Calls.later2 (HAD.out _ (Later2.below _)))))
              exact wpQuiet_nil rfl
            · refine ⟨(W1.setCell ⟨W7.heap.size, 0, none⟩ (.string (txz (IL + r1)))).setCell ⟨W7.heap.size, 1, none⟩ (.string (txz (IH + r2))), ?_, W1, hW1, rfl⟩
              obtain ⟨z0, z1, zf, zz⟩ := (HI.out.later hW1).v2
              clear x0 x1 xf xz j0 j1 jf jz l0 l1 lf lz
              clear ta0 ta1 ta2 ta3 ta4 ra0 ra1 tz rz
              go_simp
              first | done | rfl
            rintro W2 ⟨W1, hW1, rfl⟩
            simp only [Act.put, List.setIfInBounds_toArray, List.set_cons_succ, List.set_cons_zero, List.drop_succ_cons, List.drop_zero]
            clear x0 x1 xf xz j0 j1 jf jz l0 l1 lf lz
            clear ta0 ta1 ta2 ta3 ta4 ra0 ra1 tz rz
            clear HAD
            replace HB := Lib.hid (HB.out.trans (hW1.mono HB.out.size))
            replace HX := Lib.hid (HX.out.later hW1)
            replace HC := Lib.hid (HC.out.later hW1)
            replace HI := Lib.hid (HI.out.later hW1)
            replace HO := Lib.hid (HO.out.later hW1)
            replace HV := Lib.hid (HV.out.later hW1)
            replace H7 := Lib.hid (H7.out.trans (hW1.mono H7.out.size))
            clear hW1
            clear HTA HTZ HRA HRZ
            go_wp2_with fail
            go_roundw
            case rel =>
              exact ⟨k + 1, by omega, by go_num, by rw [HCR.out]; first | rfl | go_num, by rw [HOL.out], (HB.out.setCell (p := ⟨W7.heap.size, 0, none⟩) (by have := HN1.out; have := HN2.out; dsimp only; omega) _).setCell (p := ⟨W7.heap.size, 1, none⟩) (by have := HN1.out; have := HN2.out; dsimp only; omega) _, (HX.out.other (a := ⟨W7.heap.size, 0, none⟩) (.string (txz (IL + r1))) (by have := HN1.out; have := HN2.out; dsimp only; omega)).other (a := ⟨W7.heap.size, 1, none⟩) (.string (txz (IH + r2))) (by have := HN1.out; have := HN2.out; dsimp only; omega), (HC.out.other (a := ⟨W7.heap.size, 0, none⟩) (.string (txz (IL + r1))) (by have := HN1.out; have := HN2.out; dsimp only; omega)).other (a := ⟨W7.heap.size, 1, none⟩) (.string (txz (IH + r2))) (by have := HN1.out; have := HN2.out; dsimp only; omega), by rw [HIL.out, HIH.out]; exact (HI.out.set 0 (.string (txz (IL + r1)))).set 1 (.string (txz (IH + r2))), by rw [HUL.out, HUH.out, Int.add_zero, Int.add_zero]; exact (HO.out.other (a := ⟨W7.heap.size, 0, none⟩) (.string (txz (IL + r1))) (by have := HN1.out; have := HN2.out; dsimp only; omega)).other (a := ⟨W7.heap.size, 1, none⟩) (.string (txz (IH + r2))) (by have := HN1.out; have := HN2.out; dsimp only; omega), (H7.out.setCell (p := ⟨W7.heap.size, 0, none⟩) (by have := HN1.out; have := HN2.out; dsimp only; omega) _).setCell (p := ⟨W7.heap.size, 1, none⟩) (by have := HN1.out; have := HN2.out; dsimp only; omega) _⟩
            case measure => simp [intOf]; omega
        · by_cases q : tfr ∈ ps
          · have q1 : decide (tto ∈ ps) = false := decide_eq_false p
            have q2 : decide (tfr ∈ ps) = true := decide_eq_true q
            rw [q1, q2] at hin hou
            simp only [Bool.and_self, Bool.not_true, Bool.not_false, Bool.and_true, Bool.and_false] at hin hou
            rw [hin] at HIL HIH
            rw [hou] at HUL HUH
            rw [hin, hou] at HCR HOL
            simp only [if_true, if_false, Bool.false_eq_true, or_self, or_true, true_or] at HIL HIH HUL HUH HCR HOL
            clear p q hin hou
            obtain ⟨x0, x1, xf, xz⟩ := HX.out.v2
            obtain ⟨j0, j1, jf, jz⟩ := HI.out.v2
            obtain ⟨l0, l1, lf, lz⟩ := HO.out.v2
            obtain ⟨ta0, ta1, ta2, ta3, ta4⟩ := HTA.out.c5
            obtain ⟨ra0, ra1⟩ := HRA.out.c2
            have tz := HTZ.out
            have rz := HRZ.out
            go_wp2_with fail
            have HINL := Lib.hid (fun (X : Later wr) (x : Int) => HIN.out X.w (HB.out.trans (X.h.mono HB.out.size)) x)
            refine wp_region_head_later 16 (by kernel_rfl) (by kernel_rfl) ?_
            simp only [List.take_succ_cons, List.take_zero, List.drop_succ_cons, List.drop_zero]
            repeat go_big_quiet_step ((go_at_call 10; exact Calls.later_same (HINL.out _ _)))
            refine wpQuiet_nil ?_
            rintro w14 ⟨⟨_, hb14⟩, rfl⟩
            clear x0 x1 xf xz j0 j1 jf jz l0 l1 lf lz
            clear ta0 ta1 ta2 ta3 ta4 ra0 ra1 tz rz
            clear HINL
            replace HB := Lib.hid (HB.out.trans (hb14.mono HB.out.size))
            replace HX := Lib.hid (HX.out.later hb14)
            replace HC := Lib.hid (HC.out.later hb14)
            replace HI := Lib.hid (HI.out.later hb14)
            replace HO := Lib.hid (HO.out.later hb14)
            replace HV := Lib.hid (HV.out.later hb14)
            replace H7 := Lib.hid (H7.out.trans (hb14.mono H7.out.size))
            replace HTA := Lib.hid (HTA.out.below hb14 HTZ.out)
            replace HTZ := Lib.hid (Nat.lt_of_lt_of_le HTZ.out hb14.size)
            replace HRA := Lib.hid (HRA.out.below hb14 HRZ.out)
            replace HRZ := Lib.hid (Nat.lt_of_lt_of_le HRZ.out hb14.size)
            clear hb14
            obtain ⟨x0, x1, xf, xz⟩ := HX.out.v2
            obtain ⟨j0, j1, jf, jz⟩ := HI.out.v2
            obtain ⟨l0, l1, lf, lz⟩ := HO.out.v2
            obtain ⟨ta0, ta1, ta2, ta3, ta4⟩ := HTA.out.c5
            obtain ⟨ra0, ra1⟩ := HRA.out.c2
            have tz := HTZ.out
            have rz := HRZ.out
            go_wp2_with fail
            refine wp_region_later (by kernel_rfl) (by kernel_rfl) ?_
            repeat go_big_quiet_step (fail)
            refine wpQuiet_nil ?_
            rintro w15 ⟨⟨_, hb15⟩, rfl⟩
            clear x0 x1 xf xz j0 j1 jf jz l0 l1 lf lz
            clear ta0 ta1 ta2 ta3 ta4 ra0 ra1 tz rz
            replace HB := Lib.hid (HB.out.trans (hb15.mono HB.out.size))
            replace HX := Lib.hid (HX.out.later hb15)
            replace HC := Lib.hid (HC.out.later hb15)
            replace HI := Lib.hid (HI.out.later hb15)
            replace HO := Lib.hid (HO.out.later hb15)
            replace HV := Lib.hid (HV.out.later hb15)
            replace H7 := Lib.hid (H7.out.trans (hb15.mono H7.out.size))
            replace HTA := Lib.hid (HTA.out.below hb15 HTZ.out)
            replace HTZ := Lib.hid (Nat.lt_of_lt_of_le HTZ.out hb15.size)
            replace HRA := Lib.hid (HRA.out.below hb15 HRZ.out)
            replace HRZ := Lib.hid (Nat.lt_of_lt_of_le HRZ.out hb15.size)
            clear hb15
            obtain ⟨x0, x1, xf, xz⟩ := HX.out.v2
            obtain ⟨j0, j1, jf, jz⟩ := HI.out.v2
            obtain ⟨l0, l1, lf, lz⟩ := HO.out.v2
            obtain ⟨ta0, ta1, ta2, ta3, ta4⟩ := HTA.out.c5
            obtain ⟨ra0, ra1⟩ := HRA.out.c2
            have tz := HTZ.out
            have rz := HRZ.out
            go_wp2_with fail
            have HAD := Lib.hid (fun (u : World) (hu : Below w15.heap.size w15 u) => (by
              have m := HRM.out
              have n := HSO.out
              have e18 : (10 : Nat) ^ 18 = 1000000000000000000 := by decide
              exact addSpans11 u (HTB.out u (HB.out.trans (hu.mono HB.out.size))) UL UH r1 r2 ⟨by dsimp only; omega, by dsimp only; omega, n.2.1⟩ ⟨by dsimp only; omega, by dsimp only; omega, m.2.1⟩ ⟨by omega, by omega⟩ ⟨by omega, by omega⟩ : Calls Tryz.prog 11 #[.agg #[.string (txz UL), .string (txz UH)], .agg #[.string (txz r1), .string (txz r2)]] u (Ret (.tuple #[.agg #[.string (txz (UL + r1)), .string (txz (UH + r2))], .int .i64 0]) u)))
            refine wp_region_storegrow 11 10 _ (fun W' => ∃ W1, Below w15.heap.size w15 W1 ∧ W' = (W1.setCell ⟨W7.heap.size + 1, 0, none⟩ (.string (txz (UL + r1)))).setCell ⟨W7.heap.size + 1, 1, none⟩ (.string (txz (UH + r2)))) (by kernel_rfl) (by kernel_rfl) rfl (storegrow_free 9 (by kernel_rfl) rfl rfl) ?_
            apply Exists.intro
            refine ⟨fun Y => ?_, fun W1 hW1 => ?_, ?_⟩
            · simp only [headsOf, List.take_succ_cons, List.drop_succ_cons, List.take_zero, List.drop_zero, Nat.reduceSub, List.cons_append, List.nil_append]
              repeat go_big_quiet_step ((first | (go_at_call 12; exact Calls.later2 (HRS.out _)) | (go_at_call 11; exact Calls.later2 (HAD.out _ (Later2.below _)))))
              exact wpQuiet_nil rfl
            · refine ⟨(W1.setCell ⟨W7.heap.size + 1, 0, none⟩ (.string (txz (UL + r1)))).setCell ⟨W7.heap.size + 1, 1, none⟩ (.string (txz (UH + r2))), ?_, W1, hW1, rfl⟩
              obtain ⟨z0, z1, zf, zz⟩ := (HO.out.later hW1).v2
              clear x0 x1 xf xz j0 j1 jf jz l0 l1 lf lz
              clear ta0 ta1 ta2 ta3 ta4 ra0 ra1 tz rz
              go_simp
              first | done | rfl
            rintro W2 ⟨W1, hW1, rfl⟩
            simp only [Act.put, List.setIfInBounds_toArray, List.set_cons_succ, List.set_cons_zero, List.drop_succ_cons, List.drop_zero]
            clear x0 x1 xf xz j0 j1 jf jz l0 l1 lf lz
            clear ta0 ta1 ta2 ta3 ta4 ra0 ra1 tz rz
            clear HAD
            replace HB := Lib.hid (HB.out.trans (hW1.mono HB.out.size))
            replace HX := Lib.hid (HX.out.later hW1)
            replace HC := Lib.hid (HC.out.later hW1)
            replace HI := Lib.hid (HI.out.later hW1)
            replace HO := Lib.hid (HO.out.later hW1)
            replace HV := Lib.hid (HV.out.later hW1)
            replace H7 := Lib.hid (H7.out.trans (hW1.mono H7.out.size))
            clear hW1
            clear HTA HTZ HRA HRZ
            go_wp2_with fail
            go_roundw
            case rel =>
              exact ⟨k + 1, by omega, by go_num, by rw [HCR.out]; first | rfl | go_num, by rw [HOL.out], (HB.out.setCell (p := ⟨W7.heap.size + 1, 0, none⟩) (by have := HN1.out; have := HN2.out; dsimp only; omega) _).setCell (p := ⟨W7.heap.size + 1, 1, none⟩) (by have := HN1.out; have := HN2.out; dsimp only; omega) _, (HX.out.other (a := ⟨W7.heap.size + 1, 0, none⟩) (.string (txz (UL + r1))) (by have := HN1.out; have := HN2.out; dsimp only; omega)).other (a := ⟨W7.heap.size + 1, 1, none⟩) (.string (txz (UH + r2))) (by have := HN1.out; have := HN2.out; dsimp only; omega), (HC.out.other (a := ⟨W7.heap.size + 1, 0, none⟩) (.string (txz (UL + r1))) (by have := HN1.out; have := HN2.out; dsimp only; omega)).other (a := ⟨W7.heap.size + 1, 1, none⟩) (.string (txz (UH + r2))) (by have := HN1.out; have := HN2.out; dsimp only; omega), by rw [HIL.out, HIH.out, Int.add_zero, Int.add_zero]; exact (HI.out.other (a := ⟨W7.heap.size + 1, 0, none⟩) (.string (txz (UL + r1))) (by have := HN1.out; have := HN2.out; dsimp only; omega)).other (a := ⟨W7.heap.size + 1, 1, none⟩) (.string (txz (UH + r2))) (by have := HN1.out; have := HN2.out; dsimp only; omega), by rw [HUL.out, HUH.out]; exact (HO.out.set 0 (.string (txz (UL + r1)))).set 1 (.string (txz (UH + r2))), (H7.out.setCell (p := ⟨W7.heap.size + 1, 0, none⟩) (by have := HN1.out; have := HN2.out; dsimp only; omega) _).setCell (p := ⟨W7.heap.size + 1, 1, none⟩) (by have := HN1.out; have := HN2.out; dsimp only; omega) _⟩
            case measure => simp [intOf]; omega
          · have q1 : decide (tto ∈ ps) = false := decide_eq_false p
            have q2 : decide (tfr ∈ ps) = false := decide_eq_false q
            rw [q1, q2] at hin hou
            simp only [Bool.and_self, Bool.not_true, Bool.not_false, Bool.and_true, Bool.and_false] at hin hou
            rw [hin] at HIL HIH
            rw [hou] at HUL HUH
            rw [hin, hou] at HCR HOL
            simp only [if_true, if_false, Bool.false_eq_true, or_self, or_true, true_or] at HIL HIH HUL HUH HCR HOL
            clear p q hin hou
            obtain ⟨x0, x1, xf, xz⟩ := HX.out.v2
            obtain ⟨j0, j1, jf, jz⟩ := HI.out.v2
            obtain ⟨l0, l1, lf, lz⟩ := HO.out.v2
            obtain ⟨ta0, ta1, ta2, ta3, ta4⟩ := HTA.out.c5
            obtain ⟨ra0, ra1⟩ := HRA.out.c2
            have tz := HTZ.out
            have rz := HRZ.out
            go_wp2_with fail
            have HINL := Lib.hid (fun (X : Later wr) (x : Int) => HIN.out X.w (HB.out.trans (X.h.mono HB.out.size)) x)
            refine wp_region_head_later 16 (by kernel_rfl) (by kernel_rfl) ?_
            simp only [List.take_succ_cons, List.take_zero, List.drop_succ_cons, List.drop_zero]
            repeat go_big_quiet_step ((go_at_call 10; exact Calls.later_same (HINL.out _ _)))
            refine wpQuiet_nil ?_
            rintro w14 ⟨⟨_, hb14⟩, rfl⟩
            clear x0 x1 xf xz j0 j1 jf jz l0 l1 lf lz
            clear ta0 ta1 ta2 ta3 ta4 ra0 ra1 tz rz
            clear HINL
            replace HB := Lib.hid (HB.out.trans (hb14.mono HB.out.size))
            replace HX := Lib.hid (HX.out.later hb14)
            replace HC := Lib.hid (HC.out.later hb14)
            replace HI := Lib.hid (HI.out.later hb14)
            replace HO := Lib.hid (HO.out.later hb14)
            replace HV := Lib.hid (HV.out.later hb14)
            replace H7 := Lib.hid (H7.out.trans (hb14.mono H7.out.size))
            replace HTA := Lib.hid (HTA.out.below hb14 HTZ.out)
            replace HTZ := Lib.hid (Nat.lt_of_lt_of_le HTZ.out hb14.size)
            replace HRA := Lib.hid (HRA.out.below hb14 HRZ.out)
            replace HRZ := Lib.hid (Nat.lt_of_lt_of_le HRZ.out hb14.size)
            clear hb14
            obtain ⟨x0, x1, xf, xz⟩ := HX.out.v2
            obtain ⟨j0, j1, jf, jz⟩ := HI.out.v2
            obtain ⟨l0, l1, lf, lz⟩ := HO.out.v2
            obtain ⟨ta0, ta1, ta2, ta3, ta4⟩ := HTA.out.c5
            obtain ⟨ra0, ra1⟩ := HRA.out.c2
            have tz := HTZ.out
            have rz := HRZ.out
            go_wp2_with fail
            refine wp_region_later (by kernel_rfl) (by kernel_rfl) ?_
            repeat go_big_quiet_step (fail)
            refine wpQuiet_nil ?_
            rintro w15 ⟨⟨_, hb15⟩, rfl⟩
            clear x0 x1 xf xz j0 j1 jf jz l0 l1 lf lz
            clear ta0 ta1 ta2 ta3 ta4 ra0 ra1 tz rz
            replace HB := Lib.hid (HB.out.trans (hb15.mono HB.out.size))
            replace HX := Lib.hid (HX.out.later hb15)
            replace HC := Lib.hid (HC.out.later hb15)
            replace HI := Lib.hid (HI.out.later hb15)
            replace HO := Lib.hid (HO.out.later hb15)
            replace HV := Lib.hid (HV.out.later hb15)
            replace H7 := Lib.hid (H7.out.trans (hb15.mono H7.out.size))
            replace HTA := Lib.hid (HTA.out.below hb15 HTZ.out)
            replace HTZ := Lib.hid (Nat.lt_of_lt_of_le HTZ.out hb15.size)
            replace HRA := Lib.hid (HRA.out.below hb15 HRZ.out)
            replace HRZ := Lib.hid (Nat.lt_of_lt_of_le HRZ.out hb15.size)
            clear hb15
            obtain ⟨x0, x1, xf, xz⟩ := HX.out.v2
            obtain ⟨j0, j1, jf, jz⟩ := HI.out.v2
            obtain ⟨l0, l1, lf, lz⟩ := HO.out.v2
            obtain ⟨ta0, ta1, ta2, ta3, ta4⟩ := HTA.out.c5
            obtain ⟨ra0, ra1⟩ := HRA.out.c2
            have tz := HTZ.out
            have rz := HRZ.out
            go_wp2_with fail
            go_roundw
            case rel =>
              exact ⟨k + 1, by omega, by go_num, by rw [HCR.out], by rw [HOL.out], HB.out, HX.out, HC.out, by rw [HIL.out, HIH.out, Int.add_zero, Int.add_zero]; exact HI.out, by rw [HUL.out, HUH.out, Int.add_zero, Int.add_zero]; exact HO.out, H7.out⟩
            case measure => simp [intOf]; omega
      · obtain rfl : k = nt := by omega
        have HKL := Lib.hid (show b.ts.length = k from HL2.out)
        have hch := chS_of (ps := ps) HOK.out HTT.out HRL.out (show b.ts.length ≤ 8 by rw [HKL.out]; omega)
        have hcx := one_cross (ps := ps) (lo := lo) (hi := hi) HOK.out HTT.out HRL.out
        have hcz := none_cross (b := b) (ps := ps) (lo := lo) (hi := hi)
        rw [HKL.out] at hch hcx hcz
        have HCX := Lib.hid (fun (h : ((crs b ps k : Nat) : Int) = 1) => hcx (by omega))
        have HCZ := Lib.hid (fun (h : ((crs b ps k : Nat) : Int) = 0) => hcz (by omega))
        clear hcx hcz
        have hol := onl_le b ps k
        obtain ⟨IL, hq⟩ : ∃ x, sumC (inn b ps) Rg.lo rs k = x := ⟨_, rfl⟩
        rw [hq] at HSI HI hch
        clear hq
        obtain ⟨IH, hq⟩ : ∃ x, sumC (inn b ps) Rg.hi rs k = x := ⟨_, rfl⟩
        rw [hq] at HSI HI hch
        clear hq
        obtain ⟨UL, hq⟩ : ∃ x, sumC (oun b ps) Rg.lo rs k = x := ⟨_, rfl⟩
        rw [hq] at HSO HO hch
        clear hq
        obtain ⟨UH, hq⟩ : ∃ x, sumC (oun b ps) Rg.hi rs k = x := ⟨_, rfl⟩
        rw [hq] at HSO HO hch
        clear hq
        obtain ⟨cr, hq⟩ : ∃ x, ((crs b ps k : Nat) : Int) = x := ⟨_, rfl⟩
        rw [hq] at HCX HCZ ⊢
        clear hq hcr
        obtain ⟨on, hq⟩ : ∃ x, onl b ps k = x := ⟨_, rfl⟩
        rw [hq] at hol HCX ⊢
        clear hq
        have HSS := Lib.hid (fun (u : World) (hu : Below w.heap.size w u) => (by
          have m := HSI.out
          have n := HSO.out
          have e18 : (10 : Nat) ^ 18 = 1000000000000000000 := by decide
          exact subSpans13 u (HTB.out u hu) IL IH UL UH ⟨by dsimp only; omega, by dsimp only; omega, m.2.1⟩ ⟨by dsimp only; omega, by dsimp only; omega, n.2.1⟩ ⟨by omega, by omega⟩ ⟨by omega, by omega⟩ : Calls Tryz.prog 13 #[.agg #[.string (txz IL), .string (txz IH)], .agg #[.string (txz UL), .string (txz UH)]] u (Ret (.tuple #[.agg #[.string (txz (IL - UH)), .string (txz (IH - UL))], .int .i64 0]) u)))
        obtain ⟨SL, hq⟩ : ∃ x, IL - UH = x := ⟨_, rfl⟩
        rw [hq] at HSS hch
        clear hq
        obtain ⟨SH, hq⟩ : ∃ x, IH - UL = x := ⟨_, rfl⟩
        rw [hq] at HSS hch
        clear hq
        have HCH := Lib.hid hch
        have HZC := Lib.hid (fun (u : World) => zcheckSpan14 u SL SH (addK_int (by have := HCH.out.le; have := HCH.out.lo0; have := HCH.out.hi0; omega) (by have := HCH.out.le; have := HCH.out.lo0; have := HCH.out.hi0; omega)) (by have := HCH.out.le; have := HCH.out.lo0; have := HCH.out.hi0; omega) (by have := HCH.out.le; have := HCH.out.lo0; have := HCH.out.hi0; omega) HCH.out.le)
        have HZI := Lib.hid (fun (u : World) (z : Int) (h1 : SL ≤ z) (h2 : z ≤ SH) => (by
          have q1 := HCH.out.lo0
          have q2 := HCH.out.hi0
          have h := zin17 u z SL SH (addK_int (by omega) (by omega)) (addK_int (by omega) (by omega)) (by omega) (by omega) (by omega)
          rwa [decide_eq_true h1, decide_eq_true h2] at h : Calls Tryz.prog 17 #[.string (txz z), .agg #[.string (txz SL), .string (txz SH)]] u (Ret (.bool true) u)))
        have HFI := Lib.hid (fun (u : World) (z : Int) (h1 : SL ≤ z) (h2 : z ≤ SH) => (by
          have q1 := HCH.out.lo0
          have q2 := HCH.out.hi0
          exact fromInt18 u z (by omega) (by omega) : Calls Tryz.prog 18 #[.int .i64 z] u (Ret (.string (txz z)) u)))
        clear hch HSI HSO HN1 HN2
        obtain ⟨x0, x1, xf, xz⟩ := HX.out.v2
        obtain ⟨j0, j1, jf, jz⟩ := HI.out.v2
        obtain ⟨l0, l1, lf, lz⟩ := HO.out.v2
        go_wp2_with fail
        refine (HSS.out _ HB.out).mono ?_
        rintro e9 w9 ⟨rfl, hb9⟩
        clear x0 x1 xf xz j0 j1 jf jz l0 l1 lf lz HSS HI HO H7
        have hba := alloc_below w9 (.cells #[.string (txz SL), .string (txz SH)] 39)
        have hb := hb9.trans (hba.mono hb9.size)
        replace HB := Lib.hid (HB.out.trans (hb.mono HB.out.size))
        replace HX := Lib.hid (HX.out.later hb)
        replace HC := Lib.hid (HC.out.later hb)
        replace HV := Lib.hid (HV.out.later hb)
        have HS := Lib.hid (Box.new w9 #[.string (txz SL), .string (txz SH)] 39)
        clear hb9 hb hba
        obtain ⟨W9, hW9⟩ : ∃ W, w9.alloc (.cells #[.string (txz SL), .string (txz SH)] 39) = W := ⟨_, rfl⟩
        rw [hW9] at HB HX HC HV HS
        obtain ⟨s0, s1, sf, sz⟩ := HS.out.v2
        go_wp2_with fail
        refine (HZC.out _).mono ?_
        rintro e10 w10 ⟨rfl, hb⟩
        clear s0 s1 sf sz HZC hW9
        replace HB := Lib.hid (HB.out.trans (hb.mono HB.out.size))
        replace HX := Lib.hid (HX.out.later hb)
        replace HC := Lib.hid (HC.out.later hb)
        replace HV := Lib.hid (HV.out.later hb)
        replace HS := Lib.hid (HS.out.later hb)
        clear hb
        obtain ⟨pS, hpS⟩ : ∃ p, w9.heap.size = p := ⟨_, rfl⟩
        rw [hpS] at HS ⊢
        obtain ⟨x0, x1, xf, xz⟩ := HX.out.v2
        go_wp2_with fail
        clear x0 x1 xf xz
        go_loopw [189] (fun i wr => ∃ j : Nat, j ≤ k ∧ i = .int .i64 (j : Int) ∧ Below w.heap.size w wr ∧ Box wr w.heap.size 25 [.slice a1 n1 c1, .slice a2 k c2] ∧ Box wr w7.heap.size 34 [.int .i64 lo, .int .i64 hi] ∧ Box wr pS 39 [.string (txz SL), .string (txz SH)] ∧ Below w10.heap.size w10 wr) (fun i _ => k - (intOf i).toNat)
        case atStart => exact ⟨0, Nat.zero_le _, rfl, HB.out, HX.out, HC.out, HS.out, Below.refl _ _⟩
        case round =>
          obtain ⟨j, hj, rfl, hbe, hbx, hbc, hbs, hb10⟩ := hrel
          have HV2 := Lib.hid (HV.out.later hb10)
          clear HB HX HC HS HV
          have HV := Lib.hid HV2.out
          have HB := Lib.hid hbe
          have HX := Lib.hid hbx
          have HC := Lib.hid hbc
          have HS := Lib.hid hbs
          have H10 := Lib.hid hb10
          clear hbe hbx hbc hbs hb10 HV2
          by_cases hlt : j < k
          · obtain ⟨x0, x1, xf, xz⟩ := HX.out.v2
            go_wp2_with fail
            refine (HWI.out _ HB.out j (by rw [HKL.out]; exact hlt) _).mono ?_
            rintro e33 w33 ⟨vl, ms, rfl, hsl, hms, hb⟩
            obtain ⟨al, cl, el⟩ : ∃ a c, vl = .slice a k c := by obtain ⟨a, c, e, _⟩ := id hsl; exact ⟨a, c, by rw [e, hms.len, HKL.out]⟩
            subst el
            have HL := Lib.hid hsl
            have HMS := Lib.hid hms
            clear hsl hms x0 x1 xf xz
            replace HB := Lib.hid (HB.out.trans (hb.mono HB.out.size))
            replace HX := Lib.hid (HX.out.later hb)
            replace HC := Lib.hid (HC.out.later hb)
            replace HS := Lib.hid (HS.out.later hb)
            replace HV := Lib.hid (HV.out.later hb)
            replace H10 := Lib.hid (H10.out.trans (hb.mono H10.out.size))
            clear hb
            obtain ⟨x0, x1, xf, xz⟩ := HX.out.v2
            go_wp2_with fail
            refine (HGN.out _ HB.out _ ms HL.out HMS.out).mono ?_
            rintro e36 w36 ⟨rfl, hb⟩
            clear x0 x1 xf xz HL
            replace HB := Lib.hid (HB.out.trans (hb.mono HB.out.size))
            replace HX := Lib.hid (HX.out.later hb)
            replace HC := Lib.hid (HC.out.later hb)
            replace HS := Lib.hid (HS.out.later hb)
            replace HV := Lib.hid (HV.out.later hb)
            replace H10 := Lib.hid (H10.out.trans (hb.mono H10.out.size))
            clear hb
            obtain ⟨hg1, hg2⟩ := HCH.out.gain ms HMS.out
            generalize gain ps b.ts ms = g at *
            have HF1 := Lib.hid (fun (u : World) => HFI.out u g hg1 hg2)
            have HZ1 := Lib.hid (fun (u : World) => HZI.out u g hg1 hg2)
            clear hg1 hg2 HMS
            obtain ⟨s0, s1, sf, sz⟩ := HS.out.v2
            obtain ⟨c0, c1', cf, cz⟩ := HC.out.v2
            go_wp2_with fail
            refine wp_region_later (by kernel_rfl) (by kernel_rfl) ?_
            repeat go_big_quiet_step ((first | (go_at_call 18; exact Calls.later (HF1.out _)) | (go_at_call 17; exact Calls.later (HZ1.out _))))
            refine wpQuiet_nil ?_
            rintro w37 ⟨⟨_, hb⟩, rfl⟩
            clear s0 s1 sf sz c0 c1' cf cz HF1 HZ1
            replace HB := Lib.hid (HB.out.trans (hb.mono HB.out.size))
            replace HX := Lib.hid (HX.out.later hb)
            replace HC := Lib.hid (HC.out.later hb)
            replace HS := Lib.hid (HS.out.later hb)
            replace HV := Lib.hid (HV.out.later hb)
            replace H10 := Lib.hid (H10.out.trans (hb.mono H10.out.size))
            clear hb
            go_wp2_with fail
            go_roundw
            case rel => exact ⟨j + 1, by omega, by go_num, HB.out, HX.out, HC.out, HS.out, H10.out⟩
            case measure => simp [intOf]; omega
          · go_wp2_with fail
            refine (HR.out _ HB.out).mono ?_
            rintro e41 w41 ⟨rfl, hb⟩
            replace HB := Lib.hid (HB.out.trans (hb.mono HB.out.size))
            clear hb
            go_wp2_with fail
            go_ret
            exact ⟨rfl, HB.out⟩
end Go.Proofs.YtflchbejjofppaaGreatDoor.Nu
