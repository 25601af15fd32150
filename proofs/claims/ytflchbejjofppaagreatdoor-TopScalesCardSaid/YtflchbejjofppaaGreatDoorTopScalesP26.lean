/- Lemmas on the way to the law TopScales (part 26): Ld -/
import Derived.Test.YtflchbejjofppaaGreatDoorTopScalesP22
import Derived.Test.YtflchbejjofppaaGreatDoorTopScalesP23
import Derived.Test.YtflchbejjofppaaGreatDoorTopScalesP24
import Derived.Test.YtflchbejjofppaaGreatDoorTopScalesP25
set_option linter.unusedVariables false
set_option linter.unusedSimpArgs false

/- Walks: the law TopScales. -/
namespace Go.Proofs.YtflchbejjofppaaGreatDoor.Nu
open Go Go.Proofs Go.RowKit Go.Proofs.YtflchbejjofppaaGreatDoor
theorem infoP : (Tryz.prog.info? 39).map (fun i => (i.zero, i.size, i.bytes)) = some (some (.agg #[.string ⟨#[]⟩, .string ⟨#[]⟩]), 2, 32) := by kernel_rfl
theorem encP_one (p : Int × Int) : ∀ u ∈ encP p, u.oneCell' = true := by intro u hu; simp [encP] at hu; rcases hu with rfl | rfl <;> rfl
set_option maxRecDepth 100000 in
set_option maxHeartbeats 8000000 in
theorem scales4 (w : World) (hw : TbR w) (a : Option Addr) (n c : Nat) (l : List Rg) (g t : Rg) (hn : n ≤ 9223372036854775807) (hs : n ≤ 8 → l.length = n ∧ Sl Rg.enc 2 w w.heap.size (.slice a n c) l) :
    Calls Tryz.prog 4 #[.slice a n c, .agg #[.int .i64 g.lo, .int .i64 g.hi], .agg #[.int .i64 t.lo, .int .i64 t.hi]] w (Ret (.bool true) w) := by
  have HR := Lib.hid (fun (w1 : World) (hb : Below w.heap.size w w1) => routeScales7 w1 (hw.later hb))
  have HW := Lib.hid (fun (w1 : World) (hb : Below w.heap.size w w1) => hw.later hb)
  have HG := Lib.hid (fun (w1 : World) => ckMass55 g w1)
  have HT := Lib.hid (fun (w1 : World) => ckMass55 t w1)
  have HNT := Lib.hid (fun (w1 : World) => net36 g t w1)
  have HOKG := Lib.hid (fun (h : ckMass g = 0) => ckMass_0 h)
  have HOKT := Lib.hid (fun (h : ckMass t = 0) => ckMass_0 h)
  have HNE := Lib.hid (fun (h1 : ckMass g = 0) (h2 : ckMass t = 0) => netE_ok h1 h2)
  obtain ⟨g1, g2⟩ := g
  obtain ⟨t1, t2⟩ := t
  dsimp only at HG HT HNT HNE ⊢
  have HB_0 := Lib.hid ((Below.refl w.heap.size w).alloc (Nat.le_refl _) (.cells #[.int .i64 g1, .int .i64 g2] 34))
  have HB := Lib.hid (HB_0.out.alloc HB_0.out.size (.cells #[.int .i64 t1, .int .i64 t2] 34))
  have HX := Lib.hid ((Box.new w #[.int .i64 g1, .int .i64 g2] 34).alloc (.cells #[.int .i64 t1, .int .i64 t2] 34))
  have HY := Lib.hid (Box.newAt (w.alloc (.cells #[.int .i64 g1, .int .i64 g2] 34)) #[.int .i64 t1, .int .i64 t2] 34 (n := w.heap.size + 1) (by simp))
  obtain ⟨x0, x1, xf, xz⟩ := HX.out.v2
  obtain ⟨y0, y1, yf, yz⟩ := HY.out.v2
  clear HB_0
  by_cases h8 : 8 < n
  · have d0 : decide (8 < n) = true := decide_eq_true h8
    have d1 : decide ((8 : Int) < (n : Int)) = true := decide_eq_true (by omega)
    clear hs hw HG HT HNT HNE
    go_enter Tryz.func4, Tryz.ntmps4
    go_wp2_with fail
    refine (HR.out _ HB.out).mono ?_
    rintro e4 w4 ⟨rfl, hb⟩
    replace HB := Lib.hid (HB.out.trans (hb.mono HB.out.size))
    clear hb
    go_wp2_with fail
    go_ret
    exact ⟨rfl, HB.out⟩
  have d0 : decide (8 < n) = false := decide_eq_false h8
  have d1 : decide ((8 : Int) < (n : Int)) = false := decide_eq_false (by omega)
  obtain ⟨hln, hsl⟩ := hs (by omega)
  have HCM := Lib.hid (fun (w1 : World) (hb : Below w.heap.size w w1) => ckMasses57 _ l w1 (hsl.later hb))
  have HSL := Lib.hid hsl
  have HLN := Lib.hid hln
  have HC0 := Lib.hid (fun (h : ckMasses l = 0) => ckMasses_0 h)
  have HD0 := Lib.hid (fun (h : ckMasses l = 0) => drE_ok h)
  have HA0 := Lib.hid (fun (h : ckMasses l = 0) => agE_ok h)
  obtain ⟨M, hM⟩ : ∃ M, ckMasses l = M := ⟨_, rfl⟩
  rw [hM] at HCM HC0 HD0 HA0
  obtain ⟨G, hG⟩ : ∃ G, ckMass ⟨g1, g2⟩ = G := ⟨_, rfl⟩
  rw [hG] at HG HOKG HNE
  obtain ⟨T, hT⟩ : ∃ T, ckMass ⟨t1, t2⟩ = T := ⟨_, rfl⟩
  rw [hT] at HT HOKT HNE
  clear hs hw hM hG hT hsl hln hn
  by_cases h0 : M = 0
  rotate_left
  · have k0 : (M == 0) = false := beq_eq_false_iff_ne.2 h0
    have k1 : (M != 0) = true := by rw [bne, k0]; rfl
    clear h0
    go_enter Tryz.func4, Tryz.ntmps4
    go_wp2_with fail
    refine (HCM.out _ HB.out).mono ?_
    rintro e4 w4 ⟨rfl, hb⟩
    replace HB := Lib.hid (HB.out.trans (hb.mono HB.out.size))
    replace HX := Lib.hid (HX.out.later hb)
    replace HY := Lib.hid (HY.out.later hb)
    clear hb x0 x1 xf xz y0 y1 yf yz
    obtain ⟨x0, x1, xf, xz⟩ := HX.out.v2
    obtain ⟨y0, y1, yf, yz⟩ := HY.out.v2
    go_wp2_with fail
    refine (HR.out _ HB.out).mono ?_
    rintro e4 w4 ⟨rfl, hb⟩
    replace HB := Lib.hid (HB.out.trans (hb.mono HB.out.size))
    clear hb
    go_wp2_with fail
    go_ret
    exact ⟨rfl, HB.out⟩
  subst h0
  by_cases h0 : G = 0
  rotate_left
  · have k0 : (G == 0) = false := beq_eq_false_iff_ne.2 h0
    have k1 : (G != 0) = true := by rw [bne, k0]; rfl
    clear h0
    go_enter Tryz.func4, Tryz.ntmps4
    go_wp2_with fail
    refine (HCM.out _ HB.out).mono ?_
    rintro e4 w4 ⟨rfl, hb⟩
    replace HB := Lib.hid (HB.out.trans (hb.mono HB.out.size))
    replace HX := Lib.hid (HX.out.later hb)
    replace HY := Lib.hid (HY.out.later hb)
    clear hb x0 x1 xf xz y0 y1 yf yz
    obtain ⟨x0, x1, xf, xz⟩ := HX.out.v2
    obtain ⟨y0, y1, yf, yz⟩ := HY.out.v2
    go_wp2_with fail
    refine (HG.out _).mono ?_
    rintro e4 w4 ⟨rfl, hb⟩
    replace HB := Lib.hid (HB.out.trans (hb.mono HB.out.size))
    replace HX := Lib.hid (HX.out.later hb)
    replace HY := Lib.hid (HY.out.later hb)
    clear hb x0 x1 xf xz y0 y1 yf yz
    obtain ⟨x0, x1, xf, xz⟩ := HX.out.v2
    obtain ⟨y0, y1, yf, yz⟩ := HY.out.v2
    go_wp2_with fail
    refine (HR.out _ HB.out).mono ?_
    rintro e4 w4 ⟨rfl, hb⟩
    replace HB := Lib.hid (HB.out.trans (hb.mono HB.out.size))
    clear hb
    go_wp2_with fail
    go_ret
    exact ⟨rfl, HB.out⟩
  subst h0
  by_cases h0 : T = 0
  rotate_left
  · have k0 : (T == 0) = false := beq_eq_false_iff_ne.2 h0
    have k1 : (T != 0) = true := by rw [bne, k0]; rfl
    clear h0
    go_enter Tryz.func4, Tryz.ntmps4
    go_wp2_with fail
    refine (HCM.out _ HB.out).mono ?_
    rintro e4 w4 ⟨rfl, hb⟩
    replace HB := Lib.hid (HB.out.trans (hb.mono HB.out.size))
    replace HX := Lib.hid (HX.out.later hb)
    replace HY := Lib.hid (HY.out.later hb)
    clear hb x0 x1 xf xz y0 y1 yf yz
    obtain ⟨x0, x1, xf, xz⟩ := HX.out.v2
    obtain ⟨y0, y1, yf, yz⟩ := HY.out.v2
    go_wp2_with fail
    refine (HG.out _).mono ?_
    rintro e4 w4 ⟨rfl, hb⟩
    replace HB := Lib.hid (HB.out.trans (hb.mono HB.out.size))
    replace HX := Lib.hid (HX.out.later hb)
    replace HY := Lib.hid (HY.out.later hb)
    clear hb x0 x1 xf xz y0 y1 yf yz
    obtain ⟨x0, x1, xf, xz⟩ := HX.out.v2
    obtain ⟨y0, y1, yf, yz⟩ := HY.out.v2
    go_wp2_with fail
    refine (HT.out _).mono ?_
    rintro e4 w4 ⟨rfl, hb⟩
    replace HB := Lib.hid (HB.out.trans (hb.mono HB.out.size))
    replace HX := Lib.hid (HX.out.later hb)
    replace HY := Lib.hid (HY.out.later hb)
    clear hb x0 x1 xf xz y0 y1 yf yz
    obtain ⟨x0, x1, xf, xz⟩ := HX.out.v2
    obtain ⟨y0, y1, yf, yz⟩ := HY.out.v2
    go_wp2_with fail
    refine (HR.out _ HB.out).mono ?_
    rintro e4 w4 ⟨rfl, hb⟩
    replace HB := Lib.hid (HB.out.trans (hb.mono HB.out.size))
    clear hb
    go_wp2_with fail
    go_ret
    exact ⟨rfl, HB.out⟩
  subst h0
  obtain ⟨hl0, _, hlok⟩ := HC0.out rfl
  have HDR := Lib.hid (HD0.out rfl)
  have HAG := Lib.hid (HA0.out rfl)
  have HNN := Lib.hid (HNE.out rfl rfl)
  obtain ⟨hg0, hg1, hg2⟩ := HOKG.out rfl
  obtain ⟨ht0, ht1, ht2⟩ := HOKT.out rfl
  dsimp only at hg0 hg1 hg2 ht0 ht1 ht2
  have HOK := Lib.hid hlok
  have HL0 := Lib.hid (show l ≠ [] from List.length_pos_iff.1 hl0)
  have hn0 : 0 < n := by rw [← HLN.out]; exact hl0
  have HTK := Lib.hid (fun (k : Nat) (hk : k < l.length) => List.take_succ_eq_append_getElem hk)
  have HDS := Lib.hid (fun (k : Nat) (hk : k < l.length) => (by rw [List.take_succ_eq_append_getElem hk, dr_snoc] : dr (l.take (k + 1)) = ⟨(dr (l.take k)).lo + l[k].lo, (dr (l.take k)).hi + l[k].hi⟩))
  have HDB := Lib.hid (fun (k : Nat) => (by
    have h := dr_bd (l.take k) (fun r hr => hlok r (List.mem_of_mem_take hr))
    have h2 : (l.take k).length ≤ 8 := by rw [List.length_take, HLN.out]; omega
    omega : 0 ≤ (dr (l.take k)).lo ∧ (dr (l.take k)).lo ≤ (dr (l.take k)).hi ∧ (dr (l.take k)).hi ≤ 7999999992))
  have HEL := Lib.hid (fun (k : Nat) (hk : k < l.length) => (hlok _ (List.getElem_mem hk) : massOk l[k]))
  have HSPL := Lib.hid (fun (k : Nat) (hk : k < l.length) => (by unfold spans; rw [List.take_succ_eq_append_getElem hk, List.map_append]; rfl : spans (l.take (k + 1)) = spans (l.take k) ++ [(l[k].lo, l[k].hi)]))
  have HSPN := Lib.hid (fun (k : Nat) (hk : k ≤ l.length) => (by simp [spans]; omega : (spans (l.take k)).length = k))
  have HEN := Lib.hid (show l.take n = l by rw [← HLN.out, List.take_length])
  clear hl0 hlok HC0 HD0 HA0 HNE HOKG HOKT
  go_enter Tryz.func4, Tryz.ntmps4
  go_wp2_with fail
  refine (HCM.out _ HB.out).mono ?_
  rintro e4 w4 ⟨rfl, hb⟩
  replace HB := Lib.hid (HB.out.trans (hb.mono HB.out.size))
  replace HX := Lib.hid (HX.out.later hb)
  replace HY := Lib.hid (HY.out.later hb)
  clear hb x0 x1 xf xz y0 y1 yf yz
  obtain ⟨x0, x1, xf, xz⟩ := HX.out.v2
  obtain ⟨y0, y1, yf, yz⟩ := HY.out.v2
  go_wp2_with fail
  refine (HG.out _).mono ?_
  rintro e4 w4 ⟨rfl, hb⟩
  replace HB := Lib.hid (HB.out.trans (hb.mono HB.out.size))
  replace HX := Lib.hid (HX.out.later hb)
  replace HY := Lib.hid (HY.out.later hb)
  clear hb x0 x1 xf xz y0 y1 yf yz
  obtain ⟨x0, x1, xf, xz⟩ := HX.out.v2
  obtain ⟨y0, y1, yf, yz⟩ := HY.out.v2
  go_wp2_with fail
  refine (HT.out _).mono ?_
  rintro e4 w5 ⟨rfl, hb⟩
  replace HB := Lib.hid (HB.out.trans (hb.mono HB.out.size))
  replace HX := Lib.hid (HX.out.later hb)
  replace HY := Lib.hid (HY.out.later hb)
  clear hb x0 x1 xf xz y0 y1 yf yz
  obtain ⟨x0, x1, xf, xz⟩ := HX.out.v2
  obtain ⟨y0, y1, yf, yz⟩ := HY.out.v2
  clear HCM HG HT
  have HP := Lib.hid (show Box (w5.alloc (.cells #[.string ⟨#[48]⟩, .string ⟨#[48]⟩] 39)) w5.heap.size 39 [.string (txz 0), .string (txz 0)] from by rw [txz_zero]; exact Box.new w5 #[.string ⟨#[48]⟩, .string ⟨#[48]⟩] 39)
  have hba := alloc_below w5 (.cells #[.string ⟨#[48]⟩, .string ⟨#[48]⟩] 39)
  have HSZ := Lib.hid (show w.heap.size + 1 < w5.heap.size from HY.out.lt)
  replace HB := Lib.hid (HB.out.trans (hba.mono HB.out.size))
  replace HX := Lib.hid (HX.out.later hba)
  replace HY := Lib.hid (HY.out.later hba)
  clear hba x0 x1 xf xz y0 y1 yf yz
  obtain ⟨x0, x1, xf, xz⟩ := HX.out.v2
  obtain ⟨y0, y1, yf, yz⟩ := HY.out.v2
  go_wp2_with fail
  clear x0 x1 xf xz y0 y1 yf yz
  have HW5 := Lib.hid (show (w5.alloc (.cells #[.string ⟨#[48]⟩, .string ⟨#[48]⟩] 39)).heap.size = w5.heap.size + 1 by simp)
  generalize w5.alloc (.cells #[.string ⟨#[48]⟩, .string ⟨#[48]⟩] 39) = w6 at *
  generalize w5.heap.size = p at *
  go_loopw [7, 47] (fun v i wr => ∃ (k : Nat) (u : Value), k ≤ n ∧ i = .int .i64 k ∧ u = v ∧ Below w.heap.size w wr ∧ Box wr w.heap.size 34 [.int .i64 g1, .int .i64 g2] ∧ Box wr (w.heap.size + 1) 34 [.int .i64 t1, .int .i64 t2] ∧ Box wr p 39 [.string (txz (dr (l.take k)).lo), .string (txz (dr (l.take k)).hi)] ∧ p + 1 ≤ wr.heap.size ∧ Own encP 2 39 wr (p + 1) u (spans (l.take k))) (fun _ i _ => n - (intOf i).toNat)
  case atStart => exact ⟨0, _, by omega, rfl, rfl, HB.out, HX.out, HY.out, HP.out, by rw [HW5.out]; exact Nat.le_refl _, Own.nil _ _ _ _ _⟩
  case round =>
    obtain ⟨k, v, hk, rfl, rfl, hbe, hbx, hby, hbp, hsz, hown⟩ := hrel
    clear HB HX HY HP
    have HB := Lib.hid hbe
    have HX := Lib.hid hbx
    have HY := Lib.hid hby
    have HP := Lib.hid hbp
    have HO := Lib.hid hown
    clear hbx hby hbp hown
    have HSW := Lib.hid HSZ.out
    by_cases hlt : k < n
    · have hkl : k < l.length := by rw [HLN.out]; exact hlt
      obtain ⟨a', c', e, _, hA⟩ := HSL.out
      injection e with e1 e2 e3
      obtain ⟨b, off, hea, hbb, hcells⟩ := hA (by rw [HLN.out]; exact hn0)
      rw [← e1] at hea
      subst hea
      obtain ⟨c0, c1⟩ := ((hcells k hkl).below hbe hbb).c2
      have hbr : b < wr.heap.size := by have := hbe.size; omega
      have HRG := Lib.hid (HEL.out k hkl)
      have HS1 := Lib.hid (HSPL.out k hkl)
      have HD1 := Lib.hid (HDS.out k hkl)
      obtain ⟨r, hr⟩ : ∃ r, l[k] = r := ⟨_, rfl⟩
      rw [hr] at c0 c1 HRG HS1 HD1
      obtain ⟨r1, r2⟩ := r
      dsimp only at c0 c1 HS1 HD1
      have HRS := Lib.hid (fun (w1 : World) => (by have h := HRG.out; obtain ⟨h1, h2, h3⟩ := h; exact routeSpan12 w1 r1 r2 ⟨by dsimp only at h1; omega, by dsimp only at h2 h3; omega⟩ ⟨by dsimp only at h1 h2; omega, by dsimp only at h3; omega⟩ : Calls Tryz.prog 12 #[.agg #[.int .i64 r1, .int .i64 r2]] w1 (Ret (.agg #[.string (txz r1), .string (txz r2)]) w1)))
      clear hbe hcells hA e1 e2 e3 hr
      go_wp2_with fail
      refine (HRS.out _).mono ?_
      rintro e4 w4 ⟨rfl, hb⟩
      have HLW := Lib.hid (show p + 1 ≤ w4.heap.size by have := hb.size; omega)
      have HOA := Lib.hid ((HO.out.later hb).alloc (.cells #[.string (txz r1), .string (txz r2)] 39))
      have HXA := Lib.hid ((HX.out.later hb).alloc (.cells #[.string (txz r1), .string (txz r2)] 39))
      have HYA := Lib.hid ((HY.out.later hb).alloc (.cells #[.string (txz r1), .string (txz r2)] 39))
      have HPA := Lib.hid ((HP.out.later hb).alloc (.cells #[.string (txz r1), .string (txz r2)] 39))
      have hb1 := HB.out.trans (hb.mono HB.out.size)
      have HBA := Lib.hid (hb1.alloc hb1.size (.cells #[.string (txz r1), .string (txz r2)] 39))
      have HSA := Lib.hid (show p + 1 ≤ (w4.alloc (.cells #[.string (txz r1), .string (txz r2)] 39)).heap.size by have := hb.size; simp; omega)
      have HLE := Lib.hid (show (spans (l.take k)).length ≤ 1000000 by rw [HSPN.out k (by omega)]; omega)
      have HRH := Lib.hid (Box.new w4 #[.string (txz r1), .string (txz r2)] 39)
      clear hb hb1 HB HX HY HP HO c0 c1 hbr
      go_wp2_with (at_builtin; (refine wpList_pushB encP 2 32 55 39 (.agg #[.string ⟨#[]⟩, .string ⟨#[]⟩]) Tryz.underlying55 infoP rfl (by decide) (by decide) encP_len encP_one (spans (l.take k)) (r1, r2) (p + 1) _ _ _ _ HRH.out rfl _ HOA.out HSA.out HLE.out rfl _ _ rfl rfl rfl ?_); intro v' w' hown' hg')
      have HB := Lib.hid (HBA.out.grown hg' (by have := HBA.out.size; omega) (fun k hk => by have := HOA.out.lt' k hk; have := HSW.out; omega))
      have HX := Lib.hid (HXA.out.kept hg' (fun e => by have := HOA.out.lt' _ e.symm; have := HSW.out; omega))
      have HY := Lib.hid (HYA.out.kept hg' (fun e => by have := HOA.out.lt' _ e.symm; have := HSW.out; omega))
      have HP := Lib.hid (HPA.out.kept hg' (fun e => by have := HOA.out.lt' _ e.symm; omega))
      have HSB := Lib.hid (Nat.le_trans HSA.out hg'.size)
      have hln : (spans (l.take k) ++ [(r1, r2)]).length = k + 1 := by rw [← HS1.out, HSPN.out (k + 1) (by omega)]
      obtain ⟨q, cap, e, hq1, hq2⟩ := hown'.form (by omega)
      rw [hln] at e
      subst e
      have HO := Lib.hid hown'
      have HLN2 := Lib.hid hln
      clear hg' HOA HXA HYA HPA HBA HSA HLE HRH hown' hln
      go_wp2_with fail
      have HCQ := Lib.hid (fun (u : World) (hu : Below w'.heap.size w' u) => (by
        have h := Own.atN (HO.out.later hu) HLN2.out encP_len k (by rw [HLN2.out]; omega)
        rw [List.getElem_append_right (by rw [HSPN.out k (by omega)]; exact Nat.le_refl _)] at h
        simpa [encP] using h : At u q (k * 2) [.string (txz r1), .string (txz r2)]))
      have HAS := Lib.hid (fun (u : World) (hu : Below w.heap.size w u) => (by
        obtain ⟨m1, m2, m3⟩ := HDB.out k
        obtain ⟨m4, m5, m6⟩ := HRG.out
        dsimp only at m4 m5 m6
        have e18 : (10 : Nat) ^ 18 = 1000000000000000000 := by decide
        exact addSpans11 u (HW.out u hu) (dr (l.take k)).lo (dr (l.take k)).hi r1 r2 ⟨by dsimp only; omega, by dsimp only; omega, m2⟩ ⟨by dsimp only; omega, by dsimp only; omega, m5⟩ ⟨by omega, by omega⟩ ⟨by omega, by omega⟩ : Calls Tryz.prog 11 #[.agg #[.string (txz (dr (l.take k)).lo), .string (txz (dr (l.take k)).hi)], .agg #[.string (txz r1), .string (txz r2)]] u (Ret (.tuple #[.agg #[.string (txz ((dr (l.take k)).lo + r1)), .string (txz ((dr (l.take k)).hi + r2))], .int .i64 0]) u)))
      refine wp_region_joinS 11 (StJ w' [.agg #[.string (txz (dr (l.take k)).lo), .string (txz (dr (l.take k)).hi)], .slice (some ⟨q, 0, none⟩) (k + 1) cap, .int .i64 (k : Int), .pointer (some ⟨q, k * 2, none⟩), .agg #[.string (txz r1), .string (txz r2)], .tuple #[.agg #[.string (txz ((dr (l.take k)).lo + r1)), .string (txz ((dr (l.take k)).hi + r2))], .int .i64 0], .tuple #[.agg #[.string (txz ((dr (l.take k)).lo + r1)), .string (txz ((dr (l.take k)).hi + r2))], .int .i64 0], .agg #[.string (txz ((dr (l.take k)).lo + r1)), .string (txz ((dr (l.take k)).hi + r2))], .int .i64 0] 39 [.string ⟨#[]⟩, .string ⟨#[]⟩] [.string (txz ((dr (l.take k)).lo + r1)), .string (txz ((dr (l.take k)).hi + r2))] 9 10) (by kernel_rfl) (by kernel_rfl) (StJ.start rfl) ?_ ?_
      · refine ⟨?_, ?_, ?_, ?_, ?_, ?_, ?_, ?_, ?_, ?_, ?_, trivial⟩
        all_goals
          intro D vs u hD hdep hJ
          have hu := hJ.later
          simp only [putsN, List.take_succ_cons, List.take_zero, Act.put, List.setIfInBounds_toArray, List.set_cons_succ, List.set_cons_zero]
        · obtain ⟨p0, p1, pf, pz⟩ := (HP.out.later hu).v2
          refine ⟨fun v u' => v = .agg #[.string (txz (dr (l.take k)).lo), .string (txz (dr (l.take k)).hi)] ∧ u' = u, ?_, ?_⟩
          · clear hD hdep hJ hu
            go_wp2_with fail
            refine ⟨rfl, rfl, .agg #[.string (txz (dr (l.take k)).lo), .string (txz (dr (l.take k)).hi)], ?_, rfl, rfl⟩
            intro t h
            cases h
            first | rfl
          · rintro v u' ⟨rfl, rfl⟩
            exact hJ.quiet 0 (by decide) (by decide) (fun v' h => by injection h) (Below.refl _ _)
        · refine ⟨fun v u' => v = .slice (some ⟨q, 0, none⟩) (k + 1) cap ∧ u' = u, ?_, ?_⟩
          · clear hD hdep hJ hu
            go_wp2_with fail
            refine ⟨rfl, rfl, .slice (some ⟨q, 0, none⟩) (k + 1) cap, ?_, rfl, rfl⟩
            intro t h
            cases h
            first | rfl
          · rintro v u' ⟨rfl, rfl⟩
            exact hJ.quiet 1 (by decide) (by decide) (fun v' h => by injection h) (Below.refl _ _)
        · refine ⟨fun v u' => v = .int .i64 (k : Int) ∧ u' = u, ?_, ?_⟩
          · clear hD hdep hJ hu
            go_wp2_with fail
            refine ⟨rfl, rfl, .int .i64 (k : Int), ?_, rfl, rfl⟩
            intro t h
            cases h
            first | rfl
          · rintro v u' ⟨rfl, rfl⟩
            exact hJ.quiet 2 (by decide) (by decide) (fun v' h => by injection h) (Below.refl _ _)
        · have e1 : vs 1 = .slice (some ⟨q, 0, none⟩) (k + 1) cap := hJ.val 1 _ rfl (hdep 1 (by decide) (by kernel_rfl))
          have e2 : vs 2 = .int .i64 (k : Int) := hJ.val 2 _ rfl (hdep 2 (by decide) (by kernel_rfl))
          have k1 : decide (((k + 1 : Nat) : Int) ≤ (k : Int)) = false := decide_eq_false (by omega)
          refine ⟨fun v u' => v = .pointer (some ⟨q, k * 2, none⟩) ∧ u' = u, ?_, ?_⟩
          · clear hD hdep hJ hu
            go_wp2_with fail
            refine ⟨rfl, rfl, .pointer (some ⟨q, k * 2, none⟩), ?_, rfl, rfl⟩
            intro t h
            cases h
            first | rfl | exact congrArg some e1 | exact congrArg some e2
          · rintro v u' ⟨rfl, rfl⟩
            exact hJ.quiet 3 (by decide) (by decide) (fun v' h => by injection h) (Below.refl _ _)
        · have e3 : vs 3 = .pointer (some ⟨q, k * 2, none⟩) := hJ.val 3 _ rfl (hdep 3 (by decide) (by kernel_rfl))
          obtain ⟨q0, q1⟩ := (HCQ.out u hu).c2
          have hqz : q < u.heap.size := by have := hu.size; omega
          refine ⟨fun v u' => v = .agg #[.string (txz r1), .string (txz r2)] ∧ u' = u, ?_, ?_⟩
          · clear hD hdep hJ hu
            go_wp2_with fail
            refine ⟨rfl, rfl, .agg #[.string (txz r1), .string (txz r2)], ?_, rfl, rfl⟩
            intro t h
            cases h
            first | rfl | exact congrArg some e3
          · rintro v u' ⟨rfl, rfl⟩
            exact hJ.quiet 4 (by decide) (by decide) (fun v' h => by injection h) (Below.refl _ _)
        · have e0 : vs 0 = .agg #[.string (txz (dr (l.take k)).lo), .string (txz (dr (l.take k)).hi)] := hJ.val 0 _ rfl (hdep 0 (by decide) (by kernel_rfl))
          have e4 : vs 4 = .agg #[.string (txz r1), .string (txz r2)] := hJ.val 4 _ rfl (hdep 4 (by decide) (by kernel_rfl))
          have HS := Lib.hid (HAS.out u (HB.out.trans (hu.mono HB.out.size)))
          refine ⟨fun v u' => v = .tuple #[.agg #[.string (txz ((dr (l.take k)).lo + r1)), .string (txz ((dr (l.take k)).hi + r2))], .int .i64 0] ∧ Below u.heap.size u u', ?_, ?_⟩
          · clear hD hdep hJ hu
            go_wp2_with fail
            refine HS.out.mono ?_
            rintro e11 w11 ⟨rfl, hb⟩
            go_wp2_with fail
            refine ⟨rfl, rfl, .tuple #[.agg #[.string (txz ((dr (l.take k)).lo + r1)), .string (txz ((dr (l.take k)).hi + r2))], .int .i64 0], ?_, rfl, hb⟩
            intro t h
            cases h
            first | rfl | exact congrArg some e0 | exact congrArg some e4
          · rintro v u' ⟨rfl, hb⟩
            exact hJ.quiet 5 (by decide) (by decide) (fun v' h => by injection h) hb
        · have e5 : vs 5 = .tuple #[.agg #[.string (txz ((dr (l.take k)).lo + r1)), .string (txz ((dr (l.take k)).hi + r2))], .int .i64 0] := hJ.val 5 _ rfl (hdep 5 (by decide) (by kernel_rfl))
          refine ⟨fun v u' => v = .tuple #[.agg #[.string (txz ((dr (l.take k)).lo + r1)), .string (txz ((dr (l.take k)).hi + r2))], .int .i64 0] ∧ u' = u, ?_, ?_⟩
          · clear hD hdep hJ hu
            go_wp2_with fail
            refine ⟨rfl, rfl, .tuple #[.agg #[.string (txz ((dr (l.take k)).lo + r1)), .string (txz ((dr (l.take k)).hi + r2))], .int .i64 0], ?_, rfl, rfl⟩
            intro t h
            cases h
            first | rfl | exact congrArg some e5
          · rintro v u' ⟨rfl, rfl⟩
            exact hJ.quiet 6 (by decide) (by decide) (fun v' h => by injection h) (Below.refl _ _)
        · have e6 : vs 6 = .tuple #[.agg #[.string (txz ((dr (l.take k)).lo + r1)), .string (txz ((dr (l.take k)).hi + r2))], .int .i64 0] := hJ.val 6 _ rfl (hdep 6 (by decide) (by kernel_rfl))
          refine ⟨fun v u' => v = .agg #[.string (txz ((dr (l.take k)).lo + r1)), .string (txz ((dr (l.take k)).hi + r2))] ∧ u' = u, ?_, ?_⟩
          · clear hD hdep hJ hu
            go_wp2_with fail
            refine ⟨rfl, rfl, .agg #[.string (txz ((dr (l.take k)).lo + r1)), .string (txz ((dr (l.take k)).hi + r2))], ?_, rfl, rfl⟩
            intro t h
            cases h
            first | rfl | exact congrArg some e6
          · rintro v u' ⟨rfl, rfl⟩
            exact hJ.quiet 7 (by decide) (by decide) (fun v' h => by injection h) (Below.refl _ _)
        · have e6 : vs 6 = .tuple #[.agg #[.string (txz ((dr (l.take k)).lo + r1)), .string (txz ((dr (l.take k)).hi + r2))], .int .i64 0] := hJ.val 6 _ rfl (hdep 6 (by decide) (by kernel_rfl))
          refine ⟨fun v u' => v = .int .i64 0 ∧ u' = u, ?_, ?_⟩
          · clear hD hdep hJ hu
            go_wp2_with fail
            refine ⟨rfl, rfl, .int .i64 0, ?_, rfl, rfl⟩
            intro t h
            cases h
            first | rfl | exact congrArg some e6
          · rintro v u' ⟨rfl, rfl⟩
            exact hJ.quiet 8 (by decide) (by decide) (fun v' h => by injection h) (Below.refl _ _)
        · refine ⟨fun v u' => v = .pointer (some ⟨u.heap.size, 0, none⟩) ∧ u' = u.alloc (.cells #[.string ⟨#[]⟩, .string ⟨#[]⟩] 39), ?_, ?_⟩
          · clear hD hdep hJ hu
            go_wp2_with fail
            refine ⟨rfl, rfl, .pointer (some ⟨u.heap.size, 0, none⟩), ?_, rfl, rfl⟩
            intro t h
            cases h
            first | rfl
          · rintro v u' ⟨rfl, rfl⟩
            exact hJ.new (by decide) rfl hD
        · have e7 : vs 7 = .agg #[.string (txz ((dr (l.take k)).lo + r1)), .string (txz ((dr (l.take k)).hi + r2))] := hJ.val 7 _ rfl (hdep 7 (by decide) (by kernel_rfl))
          obtain ⟨h, eh, hlh, hxh⟩ := hJ.box (hdep 9 (by decide) (by kernel_rfl))
          rw [hD] at hxh
          simp only [Bool.false_eq_true, if_false] at hxh
          refine ⟨fun v u' => Below w'.heap.size u u' ∧ Box u' h 39 [.string (txz ((dr (l.take k)).lo + r1)), .string (txz ((dr (l.take k)).hi + r2))], ?_, ?_⟩
          · have HXH := Lib.hid hxh
            have HLH := Lib.hid hlh
            obtain ⟨q0, q1, qf, qz⟩ := hxh.v2
            clear hD hdep hJ hu hlh
            go_wp2_with fail
            refine ⟨rfl, rfl, undef, ?_, ?_, ?_⟩
            · intro t h
              cases h
            · exact (((Below.refl _ _).setCell (p := ⟨h, 0, none⟩) HLH.out (.string (txz ((dr (l.take k)).lo + r1)))).setCell (p := ⟨h, 1, none⟩) HLH.out (.string (txz ((dr (l.take k)).hi + r2))))
            · exact ((HXH.out.set 0 (.string (txz ((dr (l.take k)).lo + r1)))).set 1 (.string (txz ((dr (l.take k)).hi + r2))))
          · rintro v u' ⟨h1, h2⟩
            exact hJ.put (by decide) rfl (hdep 9 (by decide) (by kernel_rfl)) eh h1 hlh h2
      · intro D vs u hD hJ
        have e8 : vs 8 = .int .i64 0 := hJ.val 8 _ rfl (hD 8 (by decide))
        obtain ⟨h9, e9, hlh, hbh⟩ := hJ.box (hD 9 (by decide))
        rw [hD 10 (by decide)] at hbh
        simp only [if_true] at hbh
        have hu := hJ.later
        simp only [putsN, List.drop_succ_cons, List.drop_zero, List.take_succ_cons, List.take_zero, Act.put, List.setIfInBounds_toArray, List.set_cons_succ, List.set_cons_zero, e8, e9]
        have HH := Lib.hid hbh
        replace HX := Lib.hid (HX.out.later hu)
        replace HY := Lib.hid (HY.out.later hu)
        replace HP := Lib.hid (HP.out.later hu)
        replace HO := Lib.hid (HO.out.later hu)
        replace HB := Lib.hid (HB.out.trans (hu.mono HB.out.size))
        have hph : p ≠ h9 := by have h1 := HSB.out; omega
        have HSC := Lib.hid (Nat.le_trans HSB.out hu.size)
        clear hD hJ hu e8 e9 hbh hlh HCQ HAS
        obtain ⟨p0, p1, pf, pz⟩ := HP.out.v2
        obtain ⟨q0, q1, qf, qz⟩ := HH.out.v2
        go_wp2_with fail
        go_roundw
        case rel =>
          refine ⟨k + 1, _, by omega, by go_num, rfl, ?_, (HX.out.other (a := ⟨p, 0, none⟩) (.string (txz ((dr (l.take k)).lo + r1))) (by have := HSW.out; dsimp only; omega)).other (a := ⟨p, 1, none⟩) (.string (txz ((dr (l.take k)).hi + r2))) (by have := HSW.out; dsimp only; omega), (HY.out.other (a := ⟨p, 0, none⟩) (.string (txz ((dr (l.take k)).lo + r1))) (by have := HSW.out; dsimp only; omega)).other (a := ⟨p, 1, none⟩) (.string (txz ((dr (l.take k)).hi + r2))) (by have := HSW.out; dsimp only; omega), ?_, ?_, ?_⟩
          · have hpw : w.heap.size ≤ p := by have := HSW.out; omega
            exact (HB.out.setCell (p := ⟨p, 0, none⟩) hpw _).setCell (p := ⟨p, 1, none⟩) hpw _
          · rw [HD1.out]; exact (HP.out.set 0 (.string (txz ((dr (l.take k)).lo + r1)))).set 1 (.string (txz ((dr (l.take k)).hi + r2)))
          · simpa [World.setCell] using HSC.out
          · rw [HS1.out]; exact (HO.out.below (a := ⟨p, 0, none⟩) _ (Nat.lt_succ_self p)).below (a := ⟨p, 1, none⟩) _ (Nat.lt_succ_self p)
        case measure => simp [intOf]; omega
    · obtain rfl : k = n := by omega
      rw [HEN.out] at HP HO
      have HV := Lib.hid (Sl.of_owns encP_len (by simp [spans]; rw [HLN.out]; omega) HO.out)
      have HSLw := Lib.hid (HSL.out.later HB.out)
      have HSQ := Lib.hid (show w.heap.size + 1 + 1 ≤ wr.heap.size by have := HY.out.lt; omega)
      clear HO HTK HDS HEL HSPL HSPN HSL hk hlt hbe hsz
      have hbd := HDB.out k
      rw [HEN.out] at hbd
      have HRD := Lib.hid (fun (w1 : World) => routeSpan12 w1 (dr l).lo (dr l).hi ⟨by omega, by omega⟩ ⟨by omega, by omega⟩)
      have HDRF := Lib.hid (fun (w1 : World) (h : Sl Rg.enc 2 w1 w1.heap.size (.slice a k c) l) => drafts52 _ l w1 h)
      have HAGF := Lib.hid (fun (w1 : World) (h : Sl Rg.enc 2 w1 w1.heap.size (.slice a k c) l) => agree53 _ l w1 h)
      have h256 : (spans l).length ≤ 256 := by simp [spans]; rw [HLN.out]; omega
      have hsn : spans l ≠ [] := by have := HL0.out; simpa [spans] using this
      have HMT := Lib.hid (fun (w1 : World) (hb : Below w.heap.size w w1) (h : Sl encP 2 w1 w1.heap.size v (spans l)) => (by
        have h := meet23 w1 (HW.out w1 hb) v (spans l) h hsn h256 (spans_ok HOK.out)
        rwa [meetV_ag HL0.out] at h : Calls Tryz.prog 23 #[v] w1 (Ret _ w1)))
      have HCL := Lib.hid (fun (w1 : World) (hb : Below w.heap.size w w1) (h : Sl encP 2 w1 w1.heap.size v (spans l)) => clash24 w1 (HW.out w1 hb) v (spans l) h hsn h256 (spans_ok HOK.out))
      have HCI := Lib.hid (clsh_iff HL0.out HOK.out)
      have HRA := Lib.hid (fun (w1 : World) (h : (ag l).lo ≤ (ag l).hi) => (by
        obtain ⟨e1, e2⟩ := ag_mx HL0.out
        have m1 := mxL_mem (l := (spans l).map (·.1)) (by simpa using hsn)
        have m2 := mnL_mem (l := (spans l).map (·.2)) (by simpa using hsn)
        rw [e1] at m1
        rw [e2] at m2
        obtain ⟨p1, h1, h2⟩ := List.mem_map.1 m1
        obtain ⟨p2, h3, h4⟩ := List.mem_map.1 m2
        have o1 := (spans_ok HOK.out p1 h1).sm.1
        have o2 := (spans_ok HOK.out p2 h3).sm.2
        have := o1.lo; have := o1.hi; have := o2.lo; have := o2.hi
        exact routeSpan12 w1 (ag l).lo (ag l).hi ⟨by omega, by omega⟩ ⟨by omega, by omega⟩ : Calls Tryz.prog 12 #[.agg #[.int .i64 (ag l).lo, .int .i64 (ag l).hi]] w1 (Ret (.agg #[.string (txz ((ag l).lo)), .string (txz ((ag l).hi))]) w1)))
      have hg : -1000000000 < g1 - t2 ∧ g1 - t2 < 1000000000 ∧ -1000000000 < g2 - t1 ∧ g2 - t1 < 1000000000 ∧ g1 - t2 ≤ g2 - t1 := by omega
      have HRGG := Lib.hid (fun (w1 : World) => routeSpan12 w1 g1 g2 ⟨by omega, by omega⟩ ⟨by omega, by omega⟩)
      have HRTT := Lib.hid (fun (w1 : World) => routeSpan12 w1 t1 t2 ⟨by omega, by omega⟩ ⟨by omega, by omega⟩)
      have e18 : (10 : Nat) ^ 18 = 1000000000000000000 := by decide
      have HSUB := Lib.hid (fun (w1 : World) (hb : Below w.heap.size w w1) => subSpans13 w1 (HW.out w1 hb) g1 g2 t1 t2 ⟨by dsimp only; omega, by dsimp only; omega, hg1⟩ ⟨by dsimp only; omega, by dsimp only; omega, ht1⟩ ⟨by omega, by omega⟩ ⟨by omega, by omega⟩)
      have HCS := Lib.hid (fun (w1 : World) => zcheckSpan14 w1 (g1 - t2) (g2 - t1) (addK_quick (by omega) (by omega)) (by omega) (by omega) hg.2.2.2.2)
      have HF1 := Lib.hid (fun (w1 : World) => fromInt18 w1 (max 0 (g1 - t2)) (by omega) (by omega))
      have HF2 := Lib.hid (fun (w1 : World) => fromInt18 w1 (g2 - t1) (by omega) (by omega))
      have HMX := Lib.hid (fun (w1 : World) => (by
        have h := zmax27 w1 (g1 - t2) 0 (addK_quick (by omega) (by omega)) (by omega) (by omega)
        rw [txz_zero, Int.max_comm] at h
        exact h : Calls Tryz.prog 27 #[.string (txz (g1 - t2)), .string ⟨#[48]⟩] w1 (Ret (.string (txz (max 0 (g1 - t2)))) w1)))
      clear e18 hbd h256 hsn
      rcases HDR.out with ⟨hde, hdr⟩ | hde
      · have HDR0 := Lib.hid (fun (w1 : World) (h : Sl Rg.enc 2 w1 w1.heap.size (.slice a k c) l) => (by have h := HDRF.out w1 h; rw [hde, hdr] at h; exact h : Calls Tryz.prog 21 #[.slice a k c] w1 (Ret (.tuple #[.agg #[.int .i64 (dr l).lo, .int .i64 (dr l).hi], .int .i64 0]) w1)))
        clear hde hdr HDR HDRF
        go_wp2_with fail
        refine (HDR0.out _ HSLw.out).mono ?_
        rintro e4 w4 ⟨rfl, hb⟩
        replace HB := Lib.hid (HB.out.trans (hb.mono HB.out.size))
        replace HX := Lib.hid (HX.out.later hb)
        replace HY := Lib.hid (HY.out.later hb)
        replace HP := Lib.hid (HP.out.later hb)
        replace HV := Lib.hid (HV.out.later hb)
        replace HSLw := Lib.hid (HSLw.out.later hb)
        clear hb
        have HQ := Lib.hid (Box.new w4 #[.int .i64 (dr l).lo, .int .i64 (dr l).hi] 34)
        have hba := alloc_below w4 (.cells #[.int .i64 (dr l).lo, .int .i64 (dr l).hi] 34)
        replace HB := Lib.hid (HB.out.trans (hba.mono HB.out.size))
        replace HX := Lib.hid (HX.out.later hba)
        replace HY := Lib.hid (HY.out.later hba)
        replace HP := Lib.hid (HP.out.later hba)
        replace HV := Lib.hid (HV.out.later hba)
        replace HSLw := Lib.hid (HSLw.out.later hba)
        clear hba
        go_wp2_with fail
        generalize hw10 : w4.alloc (.cells #[.int .i64 (dr l).lo, .int .i64 (dr l).hi] 34) = w10 at *
        generalize w4.heap.size = nq at *
        clear hw10
        obtain ⟨q0, q1, qf, qz⟩ := HQ.out.v2
        obtain ⟨p0, p1, pf, pz⟩ := HP.out.v2
        refine wp_region_later (by kernel_rfl) (by kernel_rfl) ?_
        repeat go_big_quiet_step ((go_at_call 12; exact Calls.later (HRD.out _)))
        refine wpQuiet_nil ?_
        rintro w4 ⟨⟨_, hb2⟩, rfl⟩
        clear q0 q1 qf qz p0 p1 pf pz
        clear HQ HP
        replace HB := Lib.hid (HB.out.trans (hb2.mono HB.out.size))
        replace HX := Lib.hid (HX.out.later hb2)
        replace HY := Lib.hid (HY.out.later hb2)
        replace HV := Lib.hid (HV.out.later hb2)
        replace HSLw := Lib.hid (HSLw.out.later hb2)
        clear hb2
        rcases HAG.out with ⟨hae, har, hle⟩ | ⟨hae, hlt⟩
        · have HAG0 := Lib.hid (fun (w1 : World) (h : Sl Rg.enc 2 w1 w1.heap.size (.slice a k c) l) => (by have h := HAGF.out w1 h; rw [hae, har] at h; exact h : Calls Tryz.prog 22 #[.slice a k c] w1 (Ret (.tuple #[.agg #[.int .i64 (ag l).lo, .int .i64 (ag l).hi], .int .i64 0]) w1)))
          have HMT0 := Lib.hid (fun (w1 : World) (hb : Below w.heap.size w w1) (h : Sl encP 2 w1 w1.heap.size v (spans l)) => (by have h := HMT.out w1 hb h; rw [if_pos hle] at h; exact h : Calls Tryz.prog 23 #[v] w1 (Ret (.tuple #[.agg #[.string (txz ((ag l).lo)), .string (txz ((ag l).hi))], .int .i64 0]) w1)))
          have HRA0 := Lib.hid (fun (w1 : World) => HRA.out w1 hle)
          have HLE2 := Lib.hid hle
          clear hae har hle HAG HAGF HMT HRA
          go_wp2_with fail
          refine (HAG0.out _ HSLw.out).mono ?_
          rintro e5 w5 ⟨rfl, hb⟩
          replace HB := Lib.hid (HB.out.trans (hb.mono HB.out.size))
          replace HX := Lib.hid (HX.out.later hb)
          replace HY := Lib.hid (HY.out.later hb)
          replace HV := Lib.hid (HV.out.later hb)
          replace HSLw := Lib.hid (HSLw.out.later hb)
          clear hb
          have HA := Lib.hid (Box.new w5 #[.int .i64 (ag l).lo, .int .i64 (ag l).hi] 34)
          have hba := alloc_below w5 (.cells #[.int .i64 (ag l).lo, .int .i64 (ag l).hi] 34)
          replace HB := Lib.hid (HB.out.trans (hba.mono HB.out.size))
          replace HX := Lib.hid (HX.out.later hba)
          replace HY := Lib.hid (HY.out.later hba)
          replace HV := Lib.hid (HV.out.later hba)
          replace HSLw := Lib.hid (HSLw.out.later hba)
          clear hba
          go_wp2_with fail
          refine (HMT0.out _ HB.out HV.out).mono ?_
          rintro e6 w6 ⟨rfl, hb⟩
          replace HB := Lib.hid (HB.out.trans (hb.mono HB.out.size))
          replace HX := Lib.hid (HX.out.later hb)
          replace HY := Lib.hid (HY.out.later hb)
          replace HA := Lib.hid (HA.out.later hb)
          replace HV := Lib.hid (HV.out.later hb)
          replace HSLw := Lib.hid (HSLw.out.later hb)
          clear hb
          have HM := Lib.hid (Box.new w6 #[.string (txz (ag l).lo), .string (txz (ag l).hi)] 39)
          have hba := alloc_below w6 (.cells #[.string (txz (ag l).lo), .string (txz (ag l).hi)] 39)
          replace HB := Lib.hid (HB.out.trans (hba.mono HB.out.size))
          replace HX := Lib.hid (HX.out.later hba)
          replace HY := Lib.hid (HY.out.later hba)
          replace HA := Lib.hid (HA.out.later hba)
          replace HV := Lib.hid (HV.out.later hba)
          replace HSLw := Lib.hid (HSLw.out.later hba)
          clear hba
          go_wp2_with fail
          refine (HCL.out _ HB.out HV.out).mono ?_
          rintro e7 w7 ⟨ci, ck, cr, rfl, hcr, hb⟩
          replace HB := Lib.hid (HB.out.trans (hb.mono HB.out.size))
          replace HX := Lib.hid (HX.out.later hb)
          replace HY := Lib.hid (HY.out.later hb)
          replace HA := Lib.hid (HA.out.later hb)
          replace HM := Lib.hid (HM.out.later hb)
          replace HV := Lib.hid (HV.out.later hb)
          replace HSLw := Lib.hid (HSLw.out.later hb)
          clear hb
          have hcr2 : cr = 7 := by rcases hcr with ⟨h, _⟩ | ⟨_, h⟩; exact h; exact absurd (HCI.out.1 h) (by have := HLE2.out; omega)
          subst hcr2
          clear hcr
          obtain ⟨a0, a1, af, az⟩ := HA.out.v2
          obtain ⟨m0, m1, mf, mz⟩ := HM.out.v2
          go_wp2_with fail
          refine wp_region_later (by kernel_rfl) (by kernel_rfl) ?_
          repeat go_big_quiet_step ((go_at_call 12; exact Calls.later (HRA0.out _)))
          refine wpQuiet_nil ?_
          rintro w8 ⟨⟨_, hb2⟩, rfl⟩
          clear a0 a1 af az m0 m1 mf mz
          replace HB := Lib.hid (HB.out.trans (hb2.mono HB.out.size))
          replace HX := Lib.hid (HX.out.later hb2)
          replace HY := Lib.hid (HY.out.later hb2)
          replace HV := Lib.hid (HV.out.later hb2)
          replace HSLw := Lib.hid (HSLw.out.later hb2)
          clear hb2
          clear HA HM
          rcases HNN.out with ⟨hnb, hnf, hle⟩ | ⟨hnb, hlt⟩
          · have HNT0 := Lib.hid (fun (w1 : World) => (by have h := HNT.out w1; rw [hnb, hnf] at h; exact h : Calls Tryz.prog 25 #[.agg #[.int .i64 g1, .int .i64 g2], .agg #[.int .i64 t1, .int .i64 t2]] w1 (Ret (.tuple #[.agg #[.int .i64 (max 0 (g1 - t2)), .int .i64 (g2 - t1)], .int .i64 0]) w1)))
            have kmx : decide ((0 : Int) ≤ max 0 (g1 - t2)) = true := decide_eq_true (by omega)
            clear hnb hnf hle HNN HNT
            obtain ⟨x0, x1, xf, xz⟩ := HX.out.v2
            obtain ⟨y0, y1, yf, yz⟩ := HY.out.v2
            go_wp2_with fail
            refine (HNT0.out _).mono ?_
            rintro e9 w9 ⟨rfl, hb⟩
            clear x0 x1 xf xz y0 y1 yf yz
            replace HB := Lib.hid (HB.out.trans (hb.mono HB.out.size))
            replace HX := Lib.hid (HX.out.later hb)
            replace HY := Lib.hid (HY.out.later hb)
            replace HV := Lib.hid (HV.out.later hb)
            replace HSLw := Lib.hid (HSLw.out.later hb)
            clear hb
            have HN := Lib.hid (Box.new w9 #[.int .i64 (max 0 (g1 - t2)), .int .i64 (g2 - t1)] 34)
            have hba := alloc_below w9 (.cells #[.int .i64 (max 0 (g1 - t2)), .int .i64 (g2 - t1)] 34)
            replace HB := Lib.hid (HB.out.trans (hba.mono HB.out.size))
            replace HX := Lib.hid (HX.out.later hba)
            replace HY := Lib.hid (HY.out.later hba)
            replace HV := Lib.hid (HV.out.later hba)
            replace HSLw := Lib.hid (HSLw.out.later hba)
            clear hba
            obtain ⟨x0, x1, xf, xz⟩ := HX.out.v2
            obtain ⟨y0, y1, yf, yz⟩ := HY.out.v2
            go_wp2_with fail
            clear x0 x1 xf xz y0 y1 yf yz
            generalize hw10 : w9.alloc (.cells #[.int .i64 (max 0 (g1 - t2)), .int .i64 (g2 - t1)] 34) = w10 at *
            generalize w9.heap.size = nq at *
            clear hw10
            refine wp_region_joinS 10 (StJ w10 [.agg #[.int .i64 g1, .int .i64 g2], .agg #[.string (txz g1), .string (txz g2)], .agg #[.int .i64 t1, .int .i64 t2], .agg #[.string (txz t1), .string (txz t2)], .tuple #[.agg #[.string (txz (g1 - t2)), .string (txz (g2 - t1))], .int .i64 0], .tuple #[.agg #[.string (txz (g1 - t2)), .string (txz (g2 - t1))], .int .i64 0], .agg #[.string (txz (g1 - t2)), .string (txz (g2 - t1))], .int .i64 0] 39 [.string ⟨#[]⟩, .string ⟨#[]⟩] [.string (txz (g1 - t2)), .string (txz (g2 - t1))] 8 9) (by kernel_rfl) (by kernel_rfl) (StJ.start rfl) ?_ ?_
            · refine ⟨?_, ?_, ?_, ?_, ?_, ?_, ?_, ?_, ?_, ?_, trivial⟩
              all_goals
                intro D vs u hD hdep hJ
                have hu := hJ.later
                simp only [putsN, List.take_succ_cons, List.take_zero, Act.put, List.setIfInBounds_toArray, List.set_cons_succ, List.set_cons_zero]
              · obtain ⟨x0, x1, xf, xz⟩ := (HX.out.later hu).v2
                refine ⟨fun v u' => v = .agg #[.int .i64 g1, .int .i64 g2] ∧ u' = u, ?_, ?_⟩
                · clear hD hdep hJ hu
                  go_wp2_with fail
                  refine ⟨rfl, rfl, .agg #[.int .i64 g1, .int .i64 g2], ?_, rfl, rfl⟩
                  intro t h
                  cases h
                  first | rfl
                · rintro v u' ⟨rfl, rfl⟩
                  exact hJ.quiet 0 (by decide) (by decide) (fun v' h => by injection h) (Below.refl _ _)
              · have e0 : vs 0 = .agg #[.int .i64 g1, .int .i64 g2] := hJ.val 0 _ rfl (hdep 0 (by decide) (by kernel_rfl))
                have HS := Lib.hid (HRGG.out u)
                refine ⟨fun v u' => v = .agg #[.string (txz g1), .string (txz g2)] ∧ Below u.heap.size u u', ?_, ?_⟩
                · clear hD hdep hJ hu
                  go_wp2_with fail
                  refine HS.out.mono ?_
                  rintro e11 w11 ⟨rfl, hb⟩
                  go_wp2_with fail
                  refine ⟨rfl, rfl, .agg #[.string (txz g1), .string (txz g2)], ?_, rfl, hb⟩
                  intro t h
                  cases h
                  first | rfl | exact congrArg some e0
                · rintro v u' ⟨rfl, hb⟩
                  exact hJ.quiet 1 (by decide) (by decide) (fun v' h => by injection h) hb
              · obtain ⟨y0, y1, yf, yz⟩ := (HY.out.later hu).v2
                refine ⟨fun v u' => v = .agg #[.int .i64 t1, .int .i64 t2] ∧ u' = u, ?_, ?_⟩
                · clear hD hdep hJ hu
                  go_wp2_with fail
                  refine ⟨rfl, rfl, .agg #[.int .i64 t1, .int .i64 t2], ?_, rfl, rfl⟩
                  intro t h
                  cases h
                  first | rfl
                · rintro v u' ⟨rfl, rfl⟩
                  exact hJ.quiet 2 (by decide) (by decide) (fun v' h => by injection h) (Below.refl _ _)
              · have e2 : vs 2 = .agg #[.int .i64 t1, .int .i64 t2] := hJ.val 2 _ rfl (hdep 2 (by decide) (by kernel_rfl))
                have HS := Lib.hid (HRTT.out u)
                refine ⟨fun v u' => v = .agg #[.string (txz t1), .string (txz t2)] ∧ Below u.heap.size u u', ?_, ?_⟩
                · clear hD hdep hJ hu
                  go_wp2_with fail
                  refine HS.out.mono ?_
                  rintro e11 w11 ⟨rfl, hb⟩
                  go_wp2_with fail
                  refine ⟨rfl, rfl, .agg #[.string (txz t1), .string (txz t2)], ?_, rfl, hb⟩
                  intro t h
                  cases h
                  first | rfl | exact congrArg some e2
                · rintro v u' ⟨rfl, hb⟩
                  exact hJ.quiet 3 (by decide) (by decide) (fun v' h => by injection h) hb
              · have e1 : vs 1 = .agg #[.string (txz g1), .string (txz g2)] := hJ.val 1 _ rfl (hdep 1 (by decide) (by kernel_rfl))
                have e3 : vs 3 = .agg #[.string (txz t1), .string (txz t2)] := hJ.val 3 _ rfl (hdep 3 (by decide) (by kernel_rfl))
                have HS := Lib.hid (HSUB.out u (HB.out.trans (hu.mono HB.out.size)))
                refine ⟨fun v u' => v = .tuple #[.agg #[.string (txz (g1 - t2)), .string (txz (g2 - t1))], .int .i64 0] ∧ Below u.heap.size u u', ?_, ?_⟩
                · clear hD hdep hJ hu
                  go_wp2_with fail
                  refine HS.out.mono ?_
                  rintro e11 w11 ⟨rfl, hb⟩
                  go_wp2_with fail
                  refine ⟨rfl, rfl, .tuple #[.agg #[.string (txz (g1 - t2)), .string (txz (g2 - t1))], .int .i64 0], ?_, rfl, hb⟩
                  intro t h
                  cases h
                  first | rfl | exact congrArg some e1 | exact congrArg some e3
                · rintro v u' ⟨rfl, hb⟩
                  exact hJ.quiet 4 (by decide) (by decide) (fun v' h => by injection h) hb
              · have e4 : vs 4 = .tuple #[.agg #[.string (txz (g1 - t2)), .string (txz (g2 - t1))], .int .i64 0] := hJ.val 4 _ rfl (hdep 4 (by decide) (by kernel_rfl))
                refine ⟨fun v u' => v = .tuple #[.agg #[.string (txz (g1 - t2)), .string (txz (g2 - t1))], .int .i64 0] ∧ u' = u, ?_, ?_⟩
                · clear hD hdep hJ hu
                  go_wp2_with fail
                  refine ⟨rfl, rfl, .tuple #[.agg #[.string (txz (g1 - t2)), .string (txz (g2 - t1))], .int .i64 0], ?_, rfl, rfl⟩
                  intro t h
                  cases h
                  first | rfl | exact congrArg some e4
                · rintro v u' ⟨rfl, rfl⟩
                  exact hJ.quiet 5 (by decide) (by decide) (fun v' h => by injection h) (Below.refl _ _)
              · have e5 : vs 5 = .tuple #[.agg #[.string (txz (g1 - t2)), .string (txz (g2 - t1))], .int .i64 0] := hJ.val 5 _ rfl (hdep 5 (by decide) (by kernel_rfl))
                refine ⟨fun v u' => v = .agg #[.string (txz (g1 - t2)), .string (txz (g2 - t1))] ∧ u' = u, ?_, ?_⟩
                · clear hD hdep hJ hu
                  go_wp2_with fail
                  refine ⟨rfl, rfl, .agg #[.string (txz (g1 - t2)), .string (txz (g2 - t1))], ?_, rfl, rfl⟩
                  intro t h
                  cases h
                  first | rfl | exact congrArg some e5
                · rintro v u' ⟨rfl, rfl⟩
                  exact hJ.quiet 6 (by decide) (by decide) (fun v' h => by injection h) (Below.refl _ _)
              · have e5 : vs 5 = .tuple #[.agg #[.string (txz (g1 - t2)), .string (txz (g2 - t1))], .int .i64 0] := hJ.val 5 _ rfl (hdep 5 (by decide) (by kernel_rfl))
                refine ⟨fun v u' => v = .int .i64 0 ∧ u' = u, ?_, ?_⟩
                · clear hD hdep hJ hu
                  go_wp2_with fail
                  refine ⟨rfl, rfl, .int .i64 0, ?_, rfl, rfl⟩
                  intro t h
                  cases h
                  first | rfl | exact congrArg some e5
                · rintro v u' ⟨rfl, rfl⟩
                  exact hJ.quiet 7 (by decide) (by decide) (fun v' h => by injection h) (Below.refl _ _)
              · refine ⟨fun v u' => v = .pointer (some ⟨u.heap.size, 0, none⟩) ∧ u' = u.alloc (.cells #[.string ⟨#[]⟩, .string ⟨#[]⟩] 39), ?_, ?_⟩
                · clear hD hdep hJ hu
                  go_wp2_with fail
                  refine ⟨rfl, rfl, .pointer (some ⟨u.heap.size, 0, none⟩), ?_, rfl, rfl⟩
                  intro t h
                  cases h
                  first | rfl
                · rintro v u' ⟨rfl, rfl⟩
                  exact hJ.new (by decide) rfl hD
              · have e6 : vs 6 = .agg #[.string (txz (g1 - t2)), .string (txz (g2 - t1))] := hJ.val 6 _ rfl (hdep 6 (by decide) (by kernel_rfl))
                obtain ⟨h, eh, hlh, hxh⟩ := hJ.box (hdep 8 (by decide) (by kernel_rfl))
                rw [hD] at hxh
                simp only [Bool.false_eq_true, if_false] at hxh
                refine ⟨fun v u' => Below w10.heap.size u u' ∧ Box u' h 39 [.string (txz (g1 - t2)), .string (txz (g2 - t1))], ?_, ?_⟩
                · have HXH := Lib.hid hxh
                  have HLH := Lib.hid hlh
                  obtain ⟨q0, q1, qf, qz⟩ := hxh.v2
                  clear hD hdep hJ hu hlh
                  go_wp2_with fail
                  refine ⟨rfl, rfl, undef, ?_, ?_, ?_⟩
                  · intro t h
                    cases h
                  · exact (((Below.refl _ _).setCell (p := ⟨h, 0, none⟩) HLH.out (.string (txz (g1 - t2)))).setCell (p := ⟨h, 1, none⟩) HLH.out (.string (txz (g2 - t1))))
                  · exact ((HXH.out.set 0 (.string (txz (g1 - t2)))).set 1 (.string (txz (g2 - t1))))
                · rintro v u' ⟨h1, h2⟩
                  exact hJ.put (by decide) rfl (hdep 8 (by decide) (by kernel_rfl)) eh h1 hlh h2
            · intro D vs u hD hJ
              have e7 : vs 7 = .int .i64 0 := hJ.val 7 _ rfl (hD 7 (by decide))
              obtain ⟨hz, e8, hlh, hbh⟩ := hJ.box (hD 8 (by decide))
              rw [hD 9 (by decide)] at hbh
              simp only [if_true] at hbh
              have hu := hJ.later
              simp only [putsN, List.drop_succ_cons, List.drop_zero, List.take_succ_cons, List.take_zero, Act.put, List.setIfInBounds_toArray, List.set_cons_succ, List.set_cons_zero, e7, e8]
              have HE := Lib.hid hbh
              replace HN := Lib.hid (HN.out.later hu)
              replace HB := Lib.hid (HB.out.trans (hu.mono HB.out.size))
              clear hD hJ hu e7 e8 hbh hlh HX HY
              obtain ⟨e0, e1, ef, ez⟩ := HE.out.v2
              go_wp2_with fail
              refine (HCS.out _).mono ?_
              rintro e10 w11 ⟨rfl, hb⟩
              replace HE := Lib.hid (HE.out.later hb)
              replace HN := Lib.hid (HN.out.later hb)
              replace HB := Lib.hid (HB.out.trans (hb.mono HB.out.size))
              clear hb
              clear e0 e1 ef ez
              obtain ⟨e0, e1, ef, ez⟩ := HE.out.v2
              obtain ⟨n0, n1, nf, nz⟩ := HN.out.v2
              go_wp2_with fail
              have HRL := Lib.hid (fun X : Later _ => HR.out X.w (HB.out.trans (X.h.mono HB.out.size)))
              refine wp_region_later (by kernel_rfl) (by kernel_rfl) ?_
              repeat go_big_quiet_step ((first | (go_at_call 18; first | with_reducible exact Calls.later (HF1.out _) | with_reducible exact Calls.later (HF2.out _)) | (go_at_call 27; exact Calls.later (HMX.out _)) | (go_at_call 7; exact Calls.later (HRL.out _))))
              refine wpQuiet_nil ?_
              rintro w12 ⟨⟨_, hb2⟩, rfl⟩
              replace HB := Lib.hid (HB.out.trans (hb2.mono HB.out.size))
              clear hb2
              go_wp2_with fail
              go_ret
              exact ⟨rfl, HB.out⟩
          · obtain ⟨n1, hn1⟩ : ∃ x, (netF ⟨g1, g2⟩ ⟨t1, t2⟩).lo = x := ⟨_, rfl⟩
            obtain ⟨n2, hn2⟩ : ∃ x, (netF ⟨g1, g2⟩ ⟨t1, t2⟩).hi = x := ⟨_, rfl⟩
            have HNT1 := Lib.hid (fun (w1 : World) => (by have h := HNT.out w1; rw [hnb, hn1, hn2] at h; exact h : Calls Tryz.prog 25 #[.agg #[.int .i64 g1, .int .i64 g2], .agg #[.int .i64 t1, .int .i64 t2]] w1 (Ret (.tuple #[.agg #[.int .i64 n1, .int .i64 n2], .int .i64 15]) w1)))
            have HSG := Lib.hid (fun (w1 : World) => (by
              have h := rsign26 w1 ((g2 - t1 : Int) : Rat) (by have := ratL_len_int (z := g2 - t1) (by omega); omega)
              rw [txq_int, Rat.num_intCast, Int.sign_eq_neg_one_of_neg (show g2 - t1 < 0 by omega)] at h
              exact h : Calls Tryz.prog 26 #[.string (txz (g2 - t1))] w1 fun e w' => e = .returned (.int .i64 (-1)) ∧ w1 = w'))
            clear hnb hlt hn1 hn2 HNN HNT
            obtain ⟨x0, x1, xf, xz⟩ := HX.out.v2
            obtain ⟨y0, y1, yf, yz⟩ := HY.out.v2
            go_wp2_with fail
            refine (HNT1.out _).mono ?_
            rintro e9 w9 ⟨rfl, hb⟩
            clear x0 x1 xf xz y0 y1 yf yz
            replace HB := Lib.hid (HB.out.trans (hb.mono HB.out.size))
            replace HX := Lib.hid (HX.out.later hb)
            replace HY := Lib.hid (HY.out.later hb)
            replace HV := Lib.hid (HV.out.later hb)
            replace HSLw := Lib.hid (HSLw.out.later hb)
            clear hb
            have HN := Lib.hid (Box.new w9 #[.int .i64 n1, .int .i64 n2] 34)
            have hba := alloc_below w9 (.cells #[.int .i64 n1, .int .i64 n2] 34)
            replace HB := Lib.hid (HB.out.trans (hba.mono HB.out.size))
            replace HX := Lib.hid (HX.out.later hba)
            replace HY := Lib.hid (HY.out.later hba)
            replace HV := Lib.hid (HV.out.later hba)
            replace HSLw := Lib.hid (HSLw.out.later hba)
            clear hba
            obtain ⟨x0, x1, xf, xz⟩ := HX.out.v2
            obtain ⟨y0, y1, yf, yz⟩ := HY.out.v2
            go_wp2_with fail
            clear x0 x1 xf xz y0 y1 yf yz
            generalize hw10 : w9.alloc (.cells #[.int .i64 n1, .int .i64 n2] 34) = w10 at *
            generalize w9.heap.size = nq at *
            clear hw10
            refine wp_region_joinS 10 (StJ w10 [.agg #[.int .i64 g1, .int .i64 g2], .agg #[.string (txz g1), .string (txz g2)], .agg #[.int .i64 t1, .int .i64 t2], .agg #[.string (txz t1), .string (txz t2)], .tuple #[.agg #[.string (txz (g1 - t2)), .string (txz (g2 - t1))], .int .i64 0], .tuple #[.agg #[.string (txz (g1 - t2)), .string (txz (g2 - t1))], .int .i64 0], .agg #[.string (txz (g1 - t2)), .string (txz (g2 - t1))], .int .i64 0] 39 [.string ⟨#[]⟩, .string ⟨#[]⟩] [.string (txz (g1 - t2)), .string (txz (g2 - t1))] 8 9) (by kernel_rfl) (by kernel_rfl) (StJ.start rfl) ?_ ?_
            · refine ⟨?_, ?_, ?_, ?_, ?_, ?_, ?_, ?_, ?_, ?_, trivial⟩
              all_goals
                intro D vs u hD hdep hJ
                have hu := hJ.later
                simp only [putsN, List.take_succ_cons, List.take_zero, Act.put, List.setIfInBounds_toArray, List.set_cons_succ, List.set_cons_zero]
              · obtain ⟨x0, x1, xf, xz⟩ := (HX.out.later hu).v2
                refine ⟨fun v u' => v = .agg #[.int .i64 g1, .int .i64 g2] ∧ u' = u, ?_, ?_⟩
                · clear hD hdep hJ hu
                  go_wp2_with fail
                  refine ⟨rfl, rfl, .agg #[.int .i64 g1, .int .i64 g2], ?_, rfl, rfl⟩
                  intro t h
                  cases h
                  first | rfl
                · rintro v u' ⟨rfl, rfl⟩
                  exact hJ.quiet 0 (by decide) (by decide) (fun v' h => by injection h) (Below.refl _ _)
              · have e0 : vs 0 = .agg #[.int .i64 g1, .int .i64 g2] := hJ.val 0 _ rfl (hdep 0 (by decide) (by kernel_rfl))
                have HS := Lib.hid (HRGG.out u)
                refine ⟨fun v u' => v = .agg #[.string (txz g1), .string (txz g2)] ∧ Below u.heap.size u u', ?_, ?_⟩
                · clear hD hdep hJ hu
                  go_wp2_with fail
                  refine HS.out.mono ?_
                  rintro e11 w11 ⟨rfl, hb⟩
                  go_wp2_with fail
                  refine ⟨rfl, rfl, .agg #[.string (txz g1), .string (txz g2)], ?_, rfl, hb⟩
                  intro t h
                  cases h
                  first | rfl | exact congrArg some e0
                · rintro v u' ⟨rfl, hb⟩
                  exact hJ.quiet 1 (by decide) (by decide) (fun v' h => by injection h) hb
              · obtain ⟨y0, y1, yf, yz⟩ := (HY.out.later hu).v2
                refine ⟨fun v u' => v = .agg #[.int .i64 t1, .int .i64 t2] ∧ u' = u, ?_, ?_⟩
                · clear hD hdep hJ hu
                  go_wp2_with fail
                  refine ⟨rfl, rfl, .agg #[.int .i64 t1, .int .i64 t2], ?_, rfl, rfl⟩
                  intro t h
                  cases h
                  first | rfl
                · rintro v u' ⟨rfl, rfl⟩
                  exact hJ.quiet 2 (by decide) (by decide) (fun v' h => by injection h) (Below.refl _ _)
              · have e2 : vs 2 = .agg #[.int .i64 t1, .int .i64 t2] := hJ.val 2 _ rfl (hdep 2 (by decide) (by kernel_rfl))
                have HS := Lib.hid (HRTT.out u)
                refine ⟨fun v u' => v = .agg #[.string (txz t1), .string (txz t2)] ∧ Below u.heap.size u u', ?_, ?_⟩
                · clear hD hdep hJ hu
                  go_wp2_with fail
                  refine HS.out.mono ?_
                  rintro e11 w11 ⟨rfl, hb⟩
                  go_wp2_with fail
                  refine ⟨rfl, rfl, .agg #[.string (txz t1), .string (txz t2)], ?_, rfl, hb⟩
                  intro t h
                  cases h
                  first | rfl | exact congrArg some e2
                · rintro v u' ⟨rfl, hb⟩
                  exact hJ.quiet 3 (by decide) (by decide) (fun v' h => by injection h) hb
              · have e1 : vs 1 = .agg #[.string (txz g1), .string (txz g2)] := hJ.val 1 _ rfl (hdep 1 (by decide) (by kernel_rfl))
                have e3 : vs 3 = .agg #[.string (txz t1), .string (txz t2)] := hJ.val 3 _ rfl (hdep 3 (by decide) (by kernel_rfl))
                have HS := Lib.hid (HSUB.out u (HB.out.trans (hu.mono HB.out.size)))
                refine ⟨fun v u' => v = .tuple #[.agg #[.string (txz (g1 - t2)), .string (txz (g2 - t1))], .int .i64 0] ∧ Below u.heap.size u u', ?_, ?_⟩
                · clear hD hdep hJ hu
                  go_wp2_with fail
                  refine HS.out.mono ?_
                  rintro e11 w11 ⟨rfl, hb⟩
                  go_wp2_with fail
                  refine ⟨rfl, rfl, .tuple #[.agg #[.string (txz (g1 - t2)), .string (txz (g2 - t1))], .int .i64 0], ?_, rfl, hb⟩
                  intro t h
                  cases h
                  first | rfl | exact congrArg some e1 | exact congrArg some e3
                · rintro v u' ⟨rfl, hb⟩
                  exact hJ.quiet 4 (by decide) (by decide) (fun v' h => by injection h) hb
              · have e4 : vs 4 = .tuple #[.agg #[.string (txz (g1 - t2)), .string (txz (g2 - t1))], .int .i64 0] := hJ.val 4 _ rfl (hdep 4 (by decide) (by kernel_rfl))
                refine ⟨fun v u' => v = .tuple #[.agg #[.string (txz (g1 - t2)), .string (txz (g2 - t1))], .int .i64 0] ∧ u' = u, ?_, ?_⟩
                · clear hD hdep hJ hu
                  go_wp2_with fail
                  refine ⟨rfl, rfl, .tuple #[.agg #[.string (txz (g1 - t2)), .string (txz (g2 - t1))], .int .i64 0], ?_, rfl, rfl⟩
                  intro t h
                  cases h
                  first | rfl | exact congrArg some e4
                · rintro v u' ⟨rfl, rfl⟩
                  exact hJ.quiet 5 (by decide) (by decide) (fun v' h => by injection h) (Below.refl _ _)
              · have e5 : vs 5 = .tuple #[.agg #[.string (txz (g1 - t2)), .string (txz (g2 - t1))], .int .i64 0] := hJ.val 5 _ rfl (hdep 5 (by decide) (by kernel_rfl))
                refine ⟨fun v u' => v = .agg #[.string (txz (g1 - t2)), .string (txz (g2 - t1))] ∧ u' = u, ?_, ?_⟩
                · clear hD hdep hJ hu
                  go_wp2_with fail
                  refine ⟨rfl, rfl, .agg #[.string (txz (g1 - t2)), .string (txz (g2 - t1))], ?_, rfl, rfl⟩
                  intro t h
                  cases h
                  first | rfl | exact congrArg some e5
                · rintro v u' ⟨rfl, rfl⟩
                  exact hJ.quiet 6 (by decide) (by decide) (fun v' h => by injection h) (Below.refl _ _)
              · have e5 : vs 5 = .tuple #[.agg #[.string (txz (g1 - t2)), .string (txz (g2 - t1))], .int .i64 0] := hJ.val 5 _ rfl (hdep 5 (by decide) (by kernel_rfl))
                refine ⟨fun v u' => v = .int .i64 0 ∧ u' = u, ?_, ?_⟩
                · clear hD hdep hJ hu
                  go_wp2_with fail
                  refine ⟨rfl, rfl, .int .i64 0, ?_, rfl, rfl⟩
                  intro t h
                  cases h
                  first | rfl | exact congrArg some e5
                · rintro v u' ⟨rfl, rfl⟩
                  exact hJ.quiet 7 (by decide) (by decide) (fun v' h => by injection h) (Below.refl _ _)
              · refine ⟨fun v u' => v = .pointer (some ⟨u.heap.size, 0, none⟩) ∧ u' = u.alloc (.cells #[.string ⟨#[]⟩, .string ⟨#[]⟩] 39), ?_, ?_⟩
                · clear hD hdep hJ hu
                  go_wp2_with fail
                  refine ⟨rfl, rfl, .pointer (some ⟨u.heap.size, 0, none⟩), ?_, rfl, rfl⟩
                  intro t h
                  cases h
                  first | rfl
                · rintro v u' ⟨rfl, rfl⟩
                  exact hJ.new (by decide) rfl hD
              · have e6 : vs 6 = .agg #[.string (txz (g1 - t2)), .string (txz (g2 - t1))] := hJ.val 6 _ rfl (hdep 6 (by decide) (by kernel_rfl))
                obtain ⟨h, eh, hlh, hxh⟩ := hJ.box (hdep 8 (by decide) (by kernel_rfl))
                rw [hD] at hxh
                simp only [Bool.false_eq_true, if_false] at hxh
                refine ⟨fun v u' => Below w10.heap.size u u' ∧ Box u' h 39 [.string (txz (g1 - t2)), .string (txz (g2 - t1))], ?_, ?_⟩
                · have HXH := Lib.hid hxh
                  have HLH := Lib.hid hlh
                  obtain ⟨q0, q1, qf, qz⟩ := hxh.v2
                  clear hD hdep hJ hu hlh
                  go_wp2_with fail
                  refine ⟨rfl, rfl, undef, ?_, ?_, ?_⟩
                  · intro t h
                    cases h
                  · exact (((Below.refl _ _).setCell (p := ⟨h, 0, none⟩) HLH.out (.string (txz (g1 - t2)))).setCell (p := ⟨h, 1, none⟩) HLH.out (.string (txz (g2 - t1))))
                  · exact ((HXH.out.set 0 (.string (txz (g1 - t2)))).set 1 (.string (txz (g2 - t1))))
                · rintro v u' ⟨h1, h2⟩
                  exact hJ.put (by decide) rfl (hdep 8 (by decide) (by kernel_rfl)) eh h1 hlh h2
            · intro D vs u hD hJ
              have e7 : vs 7 = .int .i64 0 := hJ.val 7 _ rfl (hD 7 (by decide))
              obtain ⟨hz, e8, hlh, hbh⟩ := hJ.box (hD 8 (by decide))
              rw [hD 9 (by decide)] at hbh
              simp only [if_true] at hbh
              have hu := hJ.later
              simp only [putsN, List.drop_succ_cons, List.drop_zero, List.take_succ_cons, List.take_zero, Act.put, List.setIfInBounds_toArray, List.set_cons_succ, List.set_cons_zero, e7, e8]
              have HE := Lib.hid hbh
              replace HN := Lib.hid (HN.out.later hu)
              replace HB := Lib.hid (HB.out.trans (hu.mono HB.out.size))
              clear hD hJ hu e7 e8 hbh hlh HX HY
              obtain ⟨e0, e1, ef, ez⟩ := HE.out.v2
              go_wp2_with fail
              refine (HCS.out _).mono ?_
              rintro e10 w11 ⟨rfl, hb⟩
              replace HE := Lib.hid (HE.out.later hb)
              replace HN := Lib.hid (HN.out.later hb)
              replace HB := Lib.hid (HB.out.trans (hb.mono HB.out.size))
              clear hb
              clear e0 e1 ef ez
              obtain ⟨e0, e1, ef, ez⟩ := HE.out.v2
              obtain ⟨n0, n1, nf, nz⟩ := HN.out.v2
              go_wp2_with fail
              refine (HSG.out _).mono ?_
              rintro e11 w12 ⟨rfl, rfl⟩
              go_wp2_with fail
              refine (HR.out _ HB.out).mono ?_
              rintro e12 w13 ⟨rfl, hb⟩
              replace HB := Lib.hid (HB.out.trans (hb.mono HB.out.size))
              clear hb
              go_wp2_with fail
              go_ret
              exact ⟨rfl, HB.out⟩
        · obtain ⟨a1, ha1⟩ : ∃ x, (agR l).lo = x := ⟨_, rfl⟩
          obtain ⟨a2, ha2⟩ : ∃ x, (agR l).hi = x := ⟨_, rfl⟩
          have HAG1 := Lib.hid (fun (w1 : World) (h : Sl Rg.enc 2 w1 w1.heap.size (.slice a k c) l) => (by have h := HAGF.out w1 h; rw [hae, ha1, ha2] at h; exact h : Calls Tryz.prog 22 #[.slice a k c] w1 (Ret (.tuple #[.agg #[.int .i64 a1, .int .i64 a2], .int .i64 15]) w1)))
          have HMT1 := Lib.hid (fun (w1 : World) (hb : Below w.heap.size w w1) (h : Sl encP 2 w1 w1.heap.size v (spans l)) => (by have h := HMT.out w1 hb h; rw [if_neg (by omega)] at h; exact h : Calls Tryz.prog 23 #[v] w1 (Ret (.tuple #[.agg #[.string ⟨#[]⟩, .string ⟨#[]⟩], .int .i64 15]) w1)))
          have HRA0 := Lib.hid (fun (w1 : World) => HR.out w1)
          have HLT2 := Lib.hid hlt
          clear hae hlt ha1 ha2 HAG HAGF HMT HRA
          go_wp2_with fail
          refine (HAG1.out _ HSLw.out).mono ?_
          rintro e5 w5 ⟨rfl, hb⟩
          replace HB := Lib.hid (HB.out.trans (hb.mono HB.out.size))
          replace HX := Lib.hid (HX.out.later hb)
          replace HY := Lib.hid (HY.out.later hb)
          replace HV := Lib.hid (HV.out.later hb)
          replace HSLw := Lib.hid (HSLw.out.later hb)
          clear hb
          have HA := Lib.hid (Box.new w5 #[.int .i64 a1, .int .i64 a2] 34)
          have hba := alloc_below w5 (.cells #[.int .i64 a1, .int .i64 a2] 34)
          replace HB := Lib.hid (HB.out.trans (hba.mono HB.out.size))
          replace HX := Lib.hid (HX.out.later hba)
          replace HY := Lib.hid (HY.out.later hba)
          replace HV := Lib.hid (HV.out.later hba)
          replace HSLw := Lib.hid (HSLw.out.later hba)
          clear hba
          go_wp2_with fail
          refine (HMT1.out _ HB.out HV.out).mono ?_
          rintro e6 w6 ⟨rfl, hb⟩
          replace HB := Lib.hid (HB.out.trans (hb.mono HB.out.size))
          replace HX := Lib.hid (HX.out.later hb)
          replace HY := Lib.hid (HY.out.later hb)
          replace HA := Lib.hid (HA.out.later hb)
          replace HV := Lib.hid (HV.out.later hb)
          replace HSLw := Lib.hid (HSLw.out.later hb)
          clear hb
          have HM := Lib.hid (Box.new w6 #[.string ⟨#[]⟩, .string ⟨#[]⟩] 39)
          have hba := alloc_below w6 (.cells #[.string ⟨#[]⟩, .string ⟨#[]⟩] 39)
          replace HB := Lib.hid (HB.out.trans (hba.mono HB.out.size))
          replace HX := Lib.hid (HX.out.later hba)
          replace HY := Lib.hid (HY.out.later hba)
          replace HA := Lib.hid (HA.out.later hba)
          replace HV := Lib.hid (HV.out.later hba)
          replace HSLw := Lib.hid (HSLw.out.later hba)
          clear hba
          go_wp2_with fail
          refine (HCL.out _ HB.out HV.out).mono ?_
          rintro e7 w7 ⟨ci, ck, cr, rfl, hcr, hb⟩
          replace HB := Lib.hid (HB.out.trans (hb.mono HB.out.size))
          replace HX := Lib.hid (HX.out.later hb)
          replace HY := Lib.hid (HY.out.later hb)
          replace HA := Lib.hid (HA.out.later hb)
          replace HM := Lib.hid (HM.out.later hb)
          replace HV := Lib.hid (HV.out.later hb)
          replace HSLw := Lib.hid (HSLw.out.later hb)
          clear hb
          have hcr2 : cr = 0 := by rcases hcr with ⟨_, h⟩ | ⟨h, _⟩; exact absurd (HCI.out.2 HLT2.out) h; exact h
          subst hcr2
          clear hcr
          obtain ⟨a0, a1, af, az⟩ := HA.out.v2
          obtain ⟨m0, m1, mf, mz⟩ := HM.out.v2
          go_wp2_with fail
          refine wp_region_later (by kernel_rfl) (by kernel_rfl) ?_
          repeat go_big_quiet_step ((go_at_call 12; exact Calls.later (HRA0.out _)))
          refine wpQuiet_nil ?_
          rintro w8 ⟨⟨_, hb2⟩, rfl⟩
          clear a0 a1 af az m0 m1 mf mz
          replace HB := Lib.hid (HB.out.trans (hb2.mono HB.out.size))
          replace HX := Lib.hid (HX.out.later hb2)
          replace HY := Lib.hid (HY.out.later hb2)
          replace HV := Lib.hid (HV.out.later hb2)
          replace HSLw := Lib.hid (HSLw.out.later hb2)
          clear hb2
          clear HA HM
          rcases HNN.out with ⟨hnb, hnf, hle⟩ | ⟨hnb, hlt⟩
          · have HNT0 := Lib.hid (fun (w1 : World) => (by have h := HNT.out w1; rw [hnb, hnf] at h; exact h : Calls Tryz.prog 25 #[.agg #[.int .i64 g1, .int .i64 g2], .agg #[.int .i64 t1, .int .i64 t2]] w1 (Ret (.tuple #[.agg #[.int .i64 (max 0 (g1 - t2)), .int .i64 (g2 - t1)], .int .i64 0]) w1)))
            have kmx : decide ((0 : Int) ≤ max 0 (g1 - t2)) = true := decide_eq_true (by omega)
            clear hnb hnf hle HNN HNT
            obtain ⟨x0, x1, xf, xz⟩ := HX.out.v2
            obtain ⟨y0, y1, yf, yz⟩ := HY.out.v2
            go_wp2_with fail
            refine (HNT0.out _).mono ?_
            rintro e9 w9 ⟨rfl, hb⟩
            clear x0 x1 xf xz y0 y1 yf yz
            replace HB := Lib.hid (HB.out.trans (hb.mono HB.out.size))
            replace HX := Lib.hid (HX.out.later hb)
            replace HY := Lib.hid (HY.out.later hb)
            replace HV := Lib.hid (HV.out.later hb)
            replace HSLw := Lib.hid (HSLw.out.later hb)
            clear hb
            have HN := Lib.hid (Box.new w9 #[.int .i64 (max 0 (g1 - t2)), .int .i64 (g2 - t1)] 34)
            have hba := alloc_below w9 (.cells #[.int .i64 (max 0 (g1 - t2)), .int .i64 (g2 - t1)] 34)
            replace HB := Lib.hid (HB.out.trans (hba.mono HB.out.size))
            replace HX := Lib.hid (HX.out.later hba)
            replace HY := Lib.hid (HY.out.later hba)
            replace HV := Lib.hid (HV.out.later hba)
            replace HSLw := Lib.hid (HSLw.out.later hba)
            clear hba
            obtain ⟨x0, x1, xf, xz⟩ := HX.out.v2
            obtain ⟨y0, y1, yf, yz⟩ := HY.out.v2
            go_wp2_with fail
            clear x0 x1 xf xz y0 y1 yf yz
            generalize hw10 : w9.alloc (.cells #[.int .i64 (max 0 (g1 - t2)), .int .i64 (g2 - t1)] 34) = w10 at *
            generalize w9.heap.size = nq at *
            clear hw10
            refine wp_region_joinS 10 (StJ w10 [.agg #[.int .i64 g1, .int .i64 g2], .agg #[.string (txz g1), .string (txz g2)], .agg #[.int .i64 t1, .int .i64 t2], .agg #[.string (txz t1), .string (txz t2)], .tuple #[.agg #[.string (txz (g1 - t2)), .string (txz (g2 - t1))], .int .i64 0], .tuple #[.agg #[.string (txz (g1 - t2)), .string (txz (g2 - t1))], .int .i64 0], .agg #[.string (txz (g1 - t2)), .string (txz (g2 - t1))], .int .i64 0] 39 [.string ⟨#[]⟩, .string ⟨#[]⟩] [.string (txz (g1 - t2)), .string (txz (g2 - t1))] 8 9) (by kernel_rfl) (by kernel_rfl) (StJ.start rfl) ?_ ?_
            · refine ⟨?_, ?_, ?_, ?_, ?_, ?_, ?_, ?_, ?_, ?_, trivial⟩
              all_goals
                intro D vs u hD hdep hJ
                have hu := hJ.later
                simp only [putsN, List.take_succ_cons, List.take_zero, Act.put, List.setIfInBounds_toArray, List.set_cons_succ, List.set_cons_zero]
              · obtain ⟨x0, x1, xf, xz⟩ := (HX.out.later hu).v2
                refine ⟨fun v u' => v = .agg #[.int .i64 g1, .int .i64 g2] ∧ u' = u, ?_, ?_⟩
                · clear hD hdep hJ hu
                  go_wp2_with fail
                  refine ⟨rfl, rfl, .agg #[.int .i64 g1, .int .i64 g2], ?_, rfl, rfl⟩
                  intro t h
                  cases h
                  first | rfl
                · rintro v u' ⟨rfl, rfl⟩
                  exact hJ.quiet 0 (by decide) (by decide) (fun v' h => by injection h) (Below.refl _ _)
              · have e0 : vs 0 = .agg #[.int .i64 g1, .int .i64 g2] := hJ.val 0 _ rfl (hdep 0 (by decide) (by kernel_rfl))
                have HS := Lib.hid (HRGG.out u)
                refine ⟨fun v u' => v = .agg #[.string (txz g1), .string (txz g2)] ∧ Below u.heap.size u u', ?_, ?_⟩
                · clear hD hdep hJ hu
                  go_wp2_with fail
                  refine HS.out.mono ?_
                  rintro e11 w11 ⟨rfl, hb⟩
                  go_wp2_with fail
                  refine ⟨rfl, rfl, .agg #[.string (txz g1), .string (txz g2)], ?_, rfl, hb⟩
                  intro t h
                  cases h
                  first | rfl | exact congrArg some e0
                · rintro v u' ⟨rfl, hb⟩
                  exact hJ.quiet 1 (by decide) (by decide) (fun v' h => by injection h) hb
              · obtain ⟨y0, y1, yf, yz⟩ := (HY.out.later hu).v2
                refine ⟨fun v u' => v = .agg #[.int .i64 t1, .int .i64 t2] ∧ u' = u, ?_, ?_⟩
                · clear hD hdep hJ hu
                  go_wp2_with fail
                  refine ⟨rfl, rfl, .agg #[.int .i64 t1, .int .i64 t2], ?_, rfl, rfl⟩
                  intro t h
                  cases h
                  first | rfl
                · rintro v u' ⟨rfl, rfl⟩
                  exact hJ.quiet 2 (by decide) (by decide) (fun v' h => by injection h) (Below.refl _ _)
              · have e2 : vs 2 = .agg #[.int .i64 t1, .int .i64 t2] := hJ.val 2 _ rfl (hdep 2 (by decide) (by kernel_rfl))
                have HS := Lib.hid (HRTT.out u)
                refine ⟨fun v u' => v = .agg #[.string (txz t1), .string (txz t2)] ∧ Below u.heap.size u u', ?_, ?_⟩
                · clear hD hdep hJ hu
                  go_wp2_with fail
                  refine HS.out.mono ?_
                  rintro e11 w11 ⟨rfl, hb⟩
                  go_wp2_with fail
                  refine ⟨rfl, rfl, .agg #[.string (txz t1), .string (txz t2)], ?_, rfl, hb⟩
                  intro t h
                  cases h
                  first | rfl | exact congrArg some e2
                · rintro v u' ⟨rfl, hb⟩
                  exact hJ.quiet 3 (by decide) (by decide) (fun v' h => by injection h) hb
              · have e1 : vs 1 = .agg #[.string (txz g1), .string (txz g2)] := hJ.val 1 _ rfl (hdep 1 (by decide) (by kernel_rfl))
                have e3 : vs 3 = .agg #[.string (txz t1), .string (txz t2)] := hJ.val 3 _ rfl (hdep 3 (by decide) (by kernel_rfl))
                have HS := Lib.hid (HSUB.out u (HB.out.trans (hu.mono HB.out.size)))
                refine ⟨fun v u' => v = .tuple #[.agg #[.string (txz (g1 - t2)), .string (txz (g2 - t1))], .int .i64 0] ∧ Below u.heap.size u u', ?_, ?_⟩
                · clear hD hdep hJ hu
                  go_wp2_with fail
                  refine HS.out.mono ?_
                  rintro e11 w11 ⟨rfl, hb⟩
                  go_wp2_with fail
                  refine ⟨rfl, rfl, .tuple #[.agg #[.string (txz (g1 - t2)), .string (txz (g2 - t1))], .int .i64 0], ?_, rfl, hb⟩
                  intro t h
                  cases h
                  first | rfl | exact congrArg some e1 | exact congrArg some e3
                · rintro v u' ⟨rfl, hb⟩
                  exact hJ.quiet 4 (by decide) (by decide) (fun v' h => by injection h) hb
              · have e4 : vs 4 = .tuple #[.agg #[.string (txz (g1 - t2)), .string (txz (g2 - t1))], .int .i64 0] := hJ.val 4 _ rfl (hdep 4 (by decide) (by kernel_rfl))
                refine ⟨fun v u' => v = .tuple #[.agg #[.string (txz (g1 - t2)), .string (txz (g2 - t1))], .int .i64 0] ∧ u' = u, ?_, ?_⟩
                · clear hD hdep hJ hu
                  go_wp2_with fail
                  refine ⟨rfl, rfl, .tuple #[.agg #[.string (txz (g1 - t2)), .string (txz (g2 - t1))], .int .i64 0], ?_, rfl, rfl⟩
                  intro t h
                  cases h
                  first | rfl | exact congrArg some e4
                · rintro v u' ⟨rfl, rfl⟩
                  exact hJ.quiet 5 (by decide) (by decide) (fun v' h => by injection h) (Below.refl _ _)
              · have e5 : vs 5 = .tuple #[.agg #[.string (txz (g1 - t2)), .string (txz (g2 - t1))], .int .i64 0] := hJ.val 5 _ rfl (hdep 5 (by decide) (by kernel_rfl))
                refine ⟨fun v u' => v = .agg #[.string (txz (g1 - t2)), .string (txz (g2 - t1))] ∧ u' = u, ?_, ?_⟩
                · clear hD hdep hJ hu
                  go_wp2_with fail
                  refine ⟨rfl, rfl, .agg #[.string (txz (g1 - t2)), .string (txz (g2 - t1))], ?_, rfl, rfl⟩
                  intro t h
                  cases h
                  first | rfl | exact congrArg some e5
                · rintro v u' ⟨rfl, rfl⟩
                  exact hJ.quiet 6 (by decide) (by decide) (fun v' h => by injection h) (Below.refl _ _)
              · have e5 : vs 5 = .tuple #[.agg #[.string (txz (g1 - t2)), .string (txz (g2 - t1))], .int .i64 0] := hJ.val 5 _ rfl (hdep 5 (by decide) (by kernel_rfl))
                refine ⟨fun v u' => v = .int .i64 0 ∧ u' = u, ?_, ?_⟩
                · clear hD hdep hJ hu
                  go_wp2_with fail
                  refine ⟨rfl, rfl, .int .i64 0, ?_, rfl, rfl⟩
                  intro t h
                  cases h
                  first | rfl | exact congrArg some e5
                · rintro v u' ⟨rfl, rfl⟩
                  exact hJ.quiet 7 (by decide) (by decide) (fun v' h => by injection h) (Below.refl _ _)
              · refine ⟨fun v u' => v = .pointer (some ⟨u.heap.size, 0, none⟩) ∧ u' = u.alloc (.cells #[.string ⟨#[]⟩, .string ⟨#[]⟩] 39), ?_, ?_⟩
                · clear hD hdep hJ hu
                  go_wp2_with fail
                  refine ⟨rfl, rfl, .pointer (some ⟨u.heap.size, 0, none⟩), ?_, rfl, rfl⟩
                  intro t h
                  cases h
                  first | rfl
                · rintro v u' ⟨rfl, rfl⟩
                  exact hJ.new (by decide) rfl hD
              · have e6 : vs 6 = .agg #[.string (txz (g1 - t2)), .string (txz (g2 - t1))] := hJ.val 6 _ rfl (hdep 6 (by decide) (by kernel_rfl))
                obtain ⟨h, eh, hlh, hxh⟩ := hJ.box (hdep 8 (by decide) (by kernel_rfl))
                rw [hD] at hxh
                simp only [Bool.false_eq_true, if_false] at hxh
                refine ⟨fun v u' => Below w10.heap.size u u' ∧ Box u' h 39 [.string (txz (g1 - t2)), .string (txz (g2 - t1))], ?_, ?_⟩
                · have HXH := Lib.hid hxh
                  have HLH := Lib.hid hlh
                  obtain ⟨q0, q1, qf, qz⟩ := hxh.v2
                  clear hD hdep hJ hu hlh
                  go_wp2_with fail
                  refine ⟨rfl, rfl, undef, ?_, ?_, ?_⟩
                  · intro t h
                    cases h
                  · exact (((Below.refl _ _).setCell (p := ⟨h, 0, none⟩) HLH.out (.string (txz (g1 - t2)))).setCell (p := ⟨h, 1, none⟩) HLH.out (.string (txz (g2 - t1))))
                  · exact ((HXH.out.set 0 (.string (txz (g1 - t2)))).set 1 (.string (txz (g2 - t1))))
                · rintro v u' ⟨h1, h2⟩
                  exact hJ.put (by decide) rfl (hdep 8 (by decide) (by kernel_rfl)) eh h1 hlh h2
            · intro D vs u hD hJ
              have e7 : vs 7 = .int .i64 0 := hJ.val 7 _ rfl (hD 7 (by decide))
              obtain ⟨hz, e8, hlh, hbh⟩ := hJ.box (hD 8 (by decide))
              rw [hD 9 (by decide)] at hbh
              simp only [if_true] at hbh
              have hu := hJ.later
              simp only [putsN, List.drop_succ_cons, List.drop_zero, List.take_succ_cons, List.take_zero, Act.put, List.setIfInBounds_toArray, List.set_cons_succ, List.set_cons_zero, e7, e8]
              have HE := Lib.hid hbh
              replace HN := Lib.hid (HN.out.later hu)
              replace HB := Lib.hid (HB.out.trans (hu.mono HB.out.size))
              clear hD hJ hu e7 e8 hbh hlh HX HY
              obtain ⟨e0, e1, ef, ez⟩ := HE.out.v2
              go_wp2_with fail
              refine (HCS.out _).mono ?_
              rintro e10 w11 ⟨rfl, hb⟩
              replace HE := Lib.hid (HE.out.later hb)
              replace HN := Lib.hid (HN.out.later hb)
              replace HB := Lib.hid (HB.out.trans (hb.mono HB.out.size))
              clear hb
              clear e0 e1 ef ez
              obtain ⟨e0, e1, ef, ez⟩ := HE.out.v2
              obtain ⟨n0, n1, nf, nz⟩ := HN.out.v2
              go_wp2_with fail
              have HRL := Lib.hid (fun X : Later _ => HR.out X.w (HB.out.trans (X.h.mono HB.out.size)))
              refine wp_region_later (by kernel_rfl) (by kernel_rfl) ?_
              repeat go_big_quiet_step ((first | (go_at_call 18; first | with_reducible exact Calls.later (HF1.out _) | with_reducible exact Calls.later (HF2.out _)) | (go_at_call 27; exact Calls.later (HMX.out _)) | (go_at_call 7; exact Calls.later (HRL.out _))))
              refine wpQuiet_nil ?_
              rintro w12 ⟨⟨_, hb2⟩, rfl⟩
              replace HB := Lib.hid (HB.out.trans (hb2.mono HB.out.size))
              clear hb2
              go_wp2_with fail
              go_ret
              exact ⟨rfl, HB.out⟩
          · obtain ⟨n1, hn1⟩ : ∃ x, (netF ⟨g1, g2⟩ ⟨t1, t2⟩).lo = x := ⟨_, rfl⟩
            obtain ⟨n2, hn2⟩ : ∃ x, (netF ⟨g1, g2⟩ ⟨t1, t2⟩).hi = x := ⟨_, rfl⟩
            have HNT1 := Lib.hid (fun (w1 : World) => (by have h := HNT.out w1; rw [hnb, hn1, hn2] at h; exact h : Calls Tryz.prog 25 #[.agg #[.int .i64 g1, .int .i64 g2], .agg #[.int .i64 t1, .int .i64 t2]] w1 (Ret (.tuple #[.agg #[.int .i64 n1, .int .i64 n2], .int .i64 15]) w1)))
            have HSG := Lib.hid (fun (w1 : World) => (by
              have h := rsign26 w1 ((g2 - t1 : Int) : Rat) (by have := ratL_len_int (z := g2 - t1) (by omega); omega)
              rw [txq_int, Rat.num_intCast, Int.sign_eq_neg_one_of_neg (show g2 - t1 < 0 by omega)] at h
              exact h : Calls Tryz.prog 26 #[.string (txz (g2 - t1))] w1 fun e w' => e = .returned (.int .i64 (-1)) ∧ w1 = w'))
            clear hnb hlt hn1 hn2 HNN HNT
            obtain ⟨x0, x1, xf, xz⟩ := HX.out.v2
            obtain ⟨y0, y1, yf, yz⟩ := HY.out.v2
            go_wp2_with fail
            refine (HNT1.out _).mono ?_
            rintro e9 w9 ⟨rfl, hb⟩
            clear x0 x1 xf xz y0 y1 yf yz
            replace HB := Lib.hid (HB.out.trans (hb.mono HB.out.size))
            replace HX := Lib.hid (HX.out.later hb)
            replace HY := Lib.hid (HY.out.later hb)
            replace HV := Lib.hid (HV.out.later hb)
            replace HSLw := Lib.hid (HSLw.out.later hb)
            clear hb
            have HN := Lib.hid (Box.new w9 #[.int .i64 n1, .int .i64 n2] 34)
            have hba := alloc_below w9 (.cells #[.int .i64 n1, .int .i64 n2] 34)
            replace HB := Lib.hid (HB.out.trans (hba.mono HB.out.size))
            replace HX := Lib.hid (HX.out.later hba)
            replace HY := Lib.hid (HY.out.later hba)
            replace HV := Lib.hid (HV.out.later hba)
            replace HSLw := Lib.hid (HSLw.out.later hba)
            clear hba
            obtain ⟨x0, x1, xf, xz⟩ := HX.out.v2
            obtain ⟨y0, y1, yf, yz⟩ := HY.out.v2
            go_wp2_with fail
            clear x0 x1 xf xz y0 y1 yf yz
            generalize hw10 : w9.alloc (.cells #[.int .i64 n1, .int .i64 n2] 34) = w10 at *
            generalize w9.heap.size = nq at *
            clear hw10
            refine wp_region_joinS 10 (StJ w10 [.agg #[.int .i64 g1, .int .i64 g2], .agg #[.string (txz g1), .string (txz g2)], .agg #[.int .i64 t1, .int .i64 t2], .agg #[.string (txz t1), .string (txz t2)], .tuple #[.agg #[.string (txz (g1 - t2)), .string (txz (g2 - t1))], .int .i64 0], .tuple #[.agg #[.string (txz (g1 - t2)), .string (txz (g2 - t1))], .int .i64 0], .agg #[.string (txz (g1 - t2)), .string (txz (g2 - t1))], .int .i64 0] 39 [.string ⟨#[]⟩, .string ⟨#[]⟩] [.string (txz (g1 - t2)), .string (txz (g2 - t1))] 8 9) (by kernel_rfl) (by kernel_rfl) (StJ.start rfl) ?_ ?_
            · refine ⟨?_, ?_, ?_, ?_, ?_, ?_, ?_, ?_, ?_, ?_, trivial⟩
              all_goals
                intro D vs u hD hdep hJ
                have hu := hJ.later
                simp only [putsN, List.take_succ_cons, List.take_zero, Act.put, List.setIfInBounds_toArray, List.set_cons_succ, List.set_cons_zero]
              · obtain ⟨x0, x1, xf, xz⟩ := (HX.out.later hu).v2
                refine ⟨fun v u' => v = .agg #[.int .i64 g1, .int .i64 g2] ∧ u' = u, ?_, ?_⟩
                · clear hD hdep hJ hu
                  go_wp2_with fail
                  refine ⟨rfl, rfl, .agg #[.int .i64 g1, .int .i64 g2], ?_, rfl, rfl⟩
                  intro t h
                  cases h
                  first | rfl
                · rintro v u' ⟨rfl, rfl⟩
                  exact hJ.quiet 0 (by decide) (by decide) (fun v' h => by injection h) (Below.refl _ _)
              · have e0 : vs 0 = .agg #[.int .i64 g1, .int .i64 g2] := hJ.val 0 _ rfl (hdep 0 (by decide) (by kernel_rfl))
                have HS := Lib.hid (HRGG.out u)
                refine ⟨fun v u' => v = .agg #[.string (txz g1), .string (txz g2)] ∧ Below u.heap.size u u', ?_, ?_⟩
                · clear hD hdep hJ hu
                  go_wp2_with fail
                  refine HS.out.mono ?_
                  rintro e11 w11 ⟨rfl, hb⟩
                  go_wp2_with fail
                  refine ⟨rfl, rfl, .agg #[.string (txz g1), .string (txz g2)], ?_, rfl, hb⟩
                  intro t h
                  cases h
                  first | rfl | exact congrArg some e0
                · rintro v u' ⟨rfl, hb⟩
                  exact hJ.quiet 1 (by decide) (by decide) (fun v' h => by injection h) hb
              · obtain ⟨y0, y1, yf, yz⟩ := (HY.out.later hu).v2
                refine ⟨fun v u' => v = .agg #[.int .i64 t1, .int .i64 t2] ∧ u' = u, ?_, ?_⟩
                · clear hD hdep hJ hu
                  go_wp2_with fail
                  refine ⟨rfl, rfl, .agg #[.int .i64 t1, .int .i64 t2], ?_, rfl, rfl⟩
                  intro t h
                  cases h
                  first | rfl
                · rintro v u' ⟨rfl, rfl⟩
                  exact hJ.quiet 2 (by decide) (by decide) (fun v' h => by injection h) (Below.refl _ _)
              · have e2 : vs 2 = .agg #[.int .i64 t1, .int .i64 t2] := hJ.val 2 _ rfl (hdep 2 (by decide) (by kernel_rfl))
                have HS := Lib.hid (HRTT.out u)
                refine ⟨fun v u' => v = .agg #[.string (txz t1), .string (txz t2)] ∧ Below u.heap.size u u', ?_, ?_⟩
                · clear hD hdep hJ hu
                  go_wp2_with fail
                  refine HS.out.mono ?_
                  rintro e11 w11 ⟨rfl, hb⟩
                  go_wp2_with fail
                  refine ⟨rfl, rfl, .agg #[.string (txz t1), .string (txz t2)], ?_, rfl, hb⟩
                  intro t h
                  cases h
                  first | rfl | exact congrArg some e2
                · rintro v u' ⟨rfl, hb⟩
                  exact hJ.quiet 3 (by decide) (by decide) (fun v' h => by injection h) hb
              · have e1 : vs 1 = .agg #[.string (txz g1), .string (txz g2)] := hJ.val 1 _ rfl (hdep 1 (by decide) (by kernel_rfl))
                have e3 : vs 3 = .agg #[.string (txz t1), .string (txz t2)] := hJ.val 3 _ rfl (hdep 3 (by decide) (by kernel_rfl))
                have HS := Lib.hid (HSUB.out u (HB.out.trans (hu.mono HB.out.size)))
                refine ⟨fun v u' => v = .tuple #[.agg #[.string (txz (g1 - t2)), .string (txz (g2 - t1))], .int .i64 0] ∧ Below u.heap.size u u', ?_, ?_⟩
                · clear hD hdep hJ hu
                  go_wp2_with fail
                  refine HS.out.mono ?_
                  rintro e11 w11 ⟨rfl, hb⟩
                  go_wp2_with fail
                  refine ⟨rfl, rfl, .tuple #[.agg #[.string (txz (g1 - t2)), .string (txz (g2 - t1))], .int .i64 0], ?_, rfl, hb⟩
                  intro t h
                  cases h
                  first | rfl | exact congrArg some e1 | exact congrArg some e3
                · rintro v u' ⟨rfl, hb⟩
                  exact hJ.quiet 4 (by decide) (by decide) (fun v' h => by injection h) hb
              · have e4 : vs 4 = .tuple #[.agg #[.string (txz (g1 - t2)), .string (txz (g2 - t1))], .int .i64 0] := hJ.val 4 _ rfl (hdep 4 (by decide) (by kernel_rfl))
                refine ⟨fun v u' => v = .tuple #[.agg #[.string (txz (g1 - t2)), .string (txz (g2 - t1))], .int .i64 0] ∧ u' = u, ?_, ?_⟩
                · clear hD hdep hJ hu
                  go_wp2_with fail
                  refine ⟨rfl, rfl, .tuple #[.agg #[.string (txz (g1 - t2)), .string (txz (g2 - t1))], .int .i64 0], ?_, rfl, rfl⟩
                  intro t h
                  cases h
                  first | rfl | exact congrArg some e4
                · rintro v u' ⟨rfl, rfl⟩
                  exact hJ.quiet 5 (by decide) (by decide) (fun v' h => by injection h) (Below.refl _ _)
              · have e5 : vs 5 = .tuple #[.agg #[.string (txz (g1 - t2)), .string (txz (g2 - t1))], .int .i64 0] := hJ.val 5 _ rfl (hdep 5 (by decide) (by kernel_rfl))
                refine ⟨fun v u' => v = .agg #[.string (txz (g1 - t2)), .string (txz (g2 - t1))] ∧ u' = u, ?_, ?_⟩
                · clear hD hdep hJ hu
                  go_wp2_with fail
                  refine ⟨rfl, rfl, .agg #[.string (txz (g1 - t2)), .string (txz (g2 - t1))], ?_, rfl, rfl⟩
                  intro t h
                  cases h
                  first | rfl | exact congrArg some e5
                · rintro v u' ⟨rfl, rfl⟩
                  exact hJ.quiet 6 (by decide) (by decide) (fun v' h => by injection h) (Below.refl _ _)
              · have e5 : vs 5 = .tuple #[.agg #[.string (txz (g1 - t2)), .string (txz (g2 - t1))], .int .i64 0] := hJ.val 5 _ rfl (hdep 5 (by decide) (by kernel_rfl))
                refine ⟨fun v u' => v = .int .i64 0 ∧ u' = u, ?_, ?_⟩
                · clear hD hdep hJ hu
                  go_wp2_with fail
                  refine ⟨rfl, rfl, .int .i64 0, ?_, rfl, rfl⟩
                  intro t h
                  cases h
                  first | rfl | exact congrArg some e5
                · rintro v u' ⟨rfl, rfl⟩
                  exact hJ.quiet 7 (by decide) (by decide) (fun v' h => by injection h) (Below.refl _ _)
              · refine ⟨fun v u' => v = .pointer (some ⟨u.heap.size, 0, none⟩) ∧ u' = u.alloc (.cells #[.string ⟨#[]⟩, .string ⟨#[]⟩] 39), ?_, ?_⟩
                · clear hD hdep hJ hu
                  go_wp2_with fail
                  refine ⟨rfl, rfl, .pointer (some ⟨u.heap.size, 0, none⟩), ?_, rfl, rfl⟩
                  intro t h
                  cases h
                  first | rfl
                · rintro v u' ⟨rfl, rfl⟩
                  exact hJ.new (by decide) rfl hD
              · have e6 : vs 6 = .agg #[.string (txz (g1 - t2)), .string (txz (g2 - t1))] := hJ.val 6 _ rfl (hdep 6 (by decide) (by kernel_rfl))
                obtain ⟨h, eh, hlh, hxh⟩ := hJ.box (hdep 8 (by decide) (by kernel_rfl))
                rw [hD] at hxh
                simp only [Bool.false_eq_true, if_false] at hxh
                refine ⟨fun v u' => Below w10.heap.size u u' ∧ Box u' h 39 [.string (txz (g1 - t2)), .string (txz (g2 - t1))], ?_, ?_⟩
                · have HXH := Lib.hid hxh
                  have HLH := Lib.hid hlh
                  obtain ⟨q0, q1, qf, qz⟩ := hxh.v2
                  clear hD hdep hJ hu hlh
                  go_wp2_with fail
                  refine ⟨rfl, rfl, undef, ?_, ?_, ?_⟩
                  · intro t h
                    cases h
                  · exact (((Below.refl _ _).setCell (p := ⟨h, 0, none⟩) HLH.out (.string (txz (g1 - t2)))).setCell (p := ⟨h, 1, none⟩) HLH.out (.string (txz (g2 - t1))))
                  · exact ((HXH.out.set 0 (.string (txz (g1 - t2)))).set 1 (.string (txz (g2 - t1))))
                · rintro v u' ⟨h1, h2⟩
                  exact hJ.put (by decide) rfl (hdep 8 (by decide) (by kernel_rfl)) eh h1 hlh h2
            · intro D vs u hD hJ
              have e7 : vs 7 = .int .i64 0 := hJ.val 7 _ rfl (hD 7 (by decide))
              obtain ⟨hz, e8, hlh, hbh⟩ := hJ.box (hD 8 (by decide))
              rw [hD 9 (by decide)] at hbh
              simp only [if_true] at hbh
              have hu := hJ.later
              simp only [putsN, List.drop_succ_cons, List.drop_zero, List.take_succ_cons, List.take_zero, Act.put, List.setIfInBounds_toArray, List.set_cons_succ, List.set_cons_zero, e7, e8]
              have HE := Lib.hid hbh
              replace HN := Lib.hid (HN.out.later hu)
              replace HB := Lib.hid (HB.out.trans (hu.mono HB.out.size))
              clear hD hJ hu e7 e8 hbh hlh HX HY
              obtain ⟨e0, e1, ef, ez⟩ := HE.out.v2
              go_wp2_with fail
              refine (HCS.out _).mono ?_
              rintro e10 w11 ⟨rfl, hb⟩
              replace HE := Lib.hid (HE.out.later hb)
              replace HN := Lib.hid (HN.out.later hb)
              replace HB := Lib.hid (HB.out.trans (hb.mono HB.out.size))
              clear hb
              clear e0 e1 ef ez
              obtain ⟨e0, e1, ef, ez⟩ := HE.out.v2
              obtain ⟨n0, n1, nf, nz⟩ := HN.out.v2
              go_wp2_with fail
              refine (HSG.out _).mono ?_
              rintro e11 w12 ⟨rfl, rfl⟩
              go_wp2_with fail
              refine (HR.out _ HB.out).mono ?_
              rintro e12 w13 ⟨rfl, hb⟩
              replace HB := Lib.hid (HB.out.trans (hb.mono HB.out.size))
              clear hb
              go_wp2_with fail
              go_ret
              exact ⟨rfl, HB.out⟩
      · obtain ⟨d1, hd1⟩ : ∃ x, (drR l).lo = x := ⟨_, rfl⟩
        obtain ⟨d2, hd2⟩ : ∃ x, (drR l).hi = x := ⟨_, rfl⟩
        have HDR1 := Lib.hid (fun (w1 : World) (h : Sl Rg.enc 2 w1 w1.heap.size (.slice a k c) l) => (by have h := HDRF.out w1 h; rw [hde, hd1, hd2] at h; exact h : Calls Tryz.prog 21 #[.slice a k c] w1 (Ret (.tuple #[.agg #[.int .i64 d1, .int .i64 d2], .int .i64 4]) w1)))
        clear hde hd1 hd2 HDR HDRF
        go_wp2_with fail
        refine (HDR1.out _ HSLw.out).mono ?_
        rintro e4 w4 ⟨rfl, hb⟩
        replace HB := Lib.hid (HB.out.trans (hb.mono HB.out.size))
        replace HX := Lib.hid (HX.out.later hb)
        replace HY := Lib.hid (HY.out.later hb)
        replace HP := Lib.hid (HP.out.later hb)
        replace HV := Lib.hid (HV.out.later hb)
        replace HSLw := Lib.hid (HSLw.out.later hb)
        clear hb
        have HQ := Lib.hid (Box.new w4 #[.int .i64 d1, .int .i64 d2] 34)
        have hba := alloc_below w4 (.cells #[.int .i64 d1, .int .i64 d2] 34)
        replace HB := Lib.hid (HB.out.trans (hba.mono HB.out.size))
        replace HX := Lib.hid (HX.out.later hba)
        replace HY := Lib.hid (HY.out.later hba)
        replace HP := Lib.hid (HP.out.later hba)
        replace HV := Lib.hid (HV.out.later hba)
        replace HSLw := Lib.hid (HSLw.out.later hba)
        clear hba
        go_wp2_with fail
        generalize hw10 : w4.alloc (.cells #[.int .i64 d1, .int .i64 d2] 34) = w10 at *
        generalize w4.heap.size = nq at *
        clear hw10
        obtain ⟨q0, q1, qf, qz⟩ := HQ.out.v2
        obtain ⟨p0, p1, pf, pz⟩ := HP.out.v2
        refine wp_region_later (by kernel_rfl) (by kernel_rfl) ?_
        repeat go_big_quiet_step ((go_at_call 12; exact Calls.later (HRD.out _)))
        refine wpQuiet_nil ?_
        rintro w4 ⟨⟨_, hb2⟩, rfl⟩
        clear q0 q1 qf qz p0 p1 pf pz
        clear HQ HP
        replace HB := Lib.hid (HB.out.trans (hb2.mono HB.out.size))
        replace HX := Lib.hid (HX.out.later hb2)
        replace HY := Lib.hid (HY.out.later hb2)
        replace HV := Lib.hid (HV.out.later hb2)
        replace HSLw := Lib.hid (HSLw.out.later hb2)
        clear hb2
        rcases HAG.out with ⟨hae, har, hle⟩ | ⟨hae, hlt⟩
        · have HAG0 := Lib.hid (fun (w1 : World) (h : Sl Rg.enc 2 w1 w1.heap.size (.slice a k c) l) => (by have h := HAGF.out w1 h; rw [hae, har] at h; exact h : Calls Tryz.prog 22 #[.slice a k c] w1 (Ret (.tuple #[.agg #[.int .i64 (ag l).lo, .int .i64 (ag l).hi], .int .i64 0]) w1)))
          have HMT0 := Lib.hid (fun (w1 : World) (hb : Below w.heap.size w w1) (h : Sl encP 2 w1 w1.heap.size v (spans l)) => (by have h := HMT.out w1 hb h; rw [if_pos hle] at h; exact h : Calls Tryz.prog 23 #[v] w1 (Ret (.tuple #[.agg #[.string (txz ((ag l).lo)), .string (txz ((ag l).hi))], .int .i64 0]) w1)))
          have HRA0 := Lib.hid (fun (w1 : World) => HRA.out w1 hle)
          have HLE2 := Lib.hid hle
          clear hae har hle HAG HAGF HMT HRA
          go_wp2_with fail
          refine (HAG0.out _ HSLw.out).mono ?_
          rintro e5 w5 ⟨rfl, hb⟩
          replace HB := Lib.hid (HB.out.trans (hb.mono HB.out.size))
          replace HX := Lib.hid (HX.out.later hb)
          replace HY := Lib.hid (HY.out.later hb)
          replace HV := Lib.hid (HV.out.later hb)
          replace HSLw := Lib.hid (HSLw.out.later hb)
          clear hb
          have HA := Lib.hid (Box.new w5 #[.int .i64 (ag l).lo, .int .i64 (ag l).hi] 34)
          have hba := alloc_below w5 (.cells #[.int .i64 (ag l).lo, .int .i64 (ag l).hi] 34)
          replace HB := Lib.hid (HB.out.trans (hba.mono HB.out.size))
          replace HX := Lib.hid (HX.out.later hba)
          replace HY := Lib.hid (HY.out.later hba)
          replace HV := Lib.hid (HV.out.later hba)
          replace HSLw := Lib.hid (HSLw.out.later hba)
          clear hba
          go_wp2_with fail
          refine (HMT0.out _ HB.out HV.out).mono ?_
          rintro e6 w6 ⟨rfl, hb⟩
          replace HB := Lib.hid (HB.out.trans (hb.mono HB.out.size))
          replace HX := Lib.hid (HX.out.later hb)
          replace HY := Lib.hid (HY.out.later hb)
          replace HA := Lib.hid (HA.out.later hb)
          replace HV := Lib.hid (HV.out.later hb)
          replace HSLw := Lib.hid (HSLw.out.later hb)
          clear hb
          have HM := Lib.hid (Box.new w6 #[.string (txz (ag l).lo), .string (txz (ag l).hi)] 39)
          have hba := alloc_below w6 (.cells #[.string (txz (ag l).lo), .string (txz (ag l).hi)] 39)
          replace HB := Lib.hid (HB.out.trans (hba.mono HB.out.size))
          replace HX := Lib.hid (HX.out.later hba)
          replace HY := Lib.hid (HY.out.later hba)
          replace HA := Lib.hid (HA.out.later hba)
          replace HV := Lib.hid (HV.out.later hba)
          replace HSLw := Lib.hid (HSLw.out.later hba)
          clear hba
          go_wp2_with fail
          refine (HCL.out _ HB.out HV.out).mono ?_
          rintro e7 w7 ⟨ci, ck, cr, rfl, hcr, hb⟩
          replace HB := Lib.hid (HB.out.trans (hb.mono HB.out.size))
          replace HX := Lib.hid (HX.out.later hb)
          replace HY := Lib.hid (HY.out.later hb)
          replace HA := Lib.hid (HA.out.later hb)
          replace HM := Lib.hid (HM.out.later hb)
          replace HV := Lib.hid (HV.out.later hb)
          replace HSLw := Lib.hid (HSLw.out.later hb)
          clear hb
          have hcr2 : cr = 7 := by rcases hcr with ⟨h, _⟩ | ⟨_, h⟩; exact h; exact absurd (HCI.out.1 h) (by have := HLE2.out; omega)
          subst hcr2
          clear hcr
          obtain ⟨a0, a1, af, az⟩ := HA.out.v2
          obtain ⟨m0, m1, mf, mz⟩ := HM.out.v2
          go_wp2_with fail
          refine wp_region_later (by kernel_rfl) (by kernel_rfl) ?_
          repeat go_big_quiet_step ((go_at_call 12; exact Calls.later (HRA0.out _)))
          refine wpQuiet_nil ?_
          rintro w8 ⟨⟨_, hb2⟩, rfl⟩
          clear a0 a1 af az m0 m1 mf mz
          replace HB := Lib.hid (HB.out.trans (hb2.mono HB.out.size))
          replace HX := Lib.hid (HX.out.later hb2)
          replace HY := Lib.hid (HY.out.later hb2)
          replace HV := Lib.hid (HV.out.later hb2)
          replace HSLw := Lib.hid (HSLw.out.later hb2)
          clear hb2
          clear HA HM
          rcases HNN.out with ⟨hnb, hnf, hle⟩ | ⟨hnb, hlt⟩
          · have HNT0 := Lib.hid (fun (w1 : World) => (by have h := HNT.out w1; rw [hnb, hnf] at h; exact h : Calls Tryz.prog 25 #[.agg #[.int .i64 g1, .int .i64 g2], .agg #[.int .i64 t1, .int .i64 t2]] w1 (Ret (.tuple #[.agg #[.int .i64 (max 0 (g1 - t2)), .int .i64 (g2 - t1)], .int .i64 0]) w1)))
            have kmx : decide ((0 : Int) ≤ max 0 (g1 - t2)) = true := decide_eq_true (by omega)
            clear hnb hnf hle HNN HNT
            obtain ⟨x0, x1, xf, xz⟩ := HX.out.v2
            obtain ⟨y0, y1, yf, yz⟩ := HY.out.v2
            go_wp2_with fail
            refine (HNT0.out _).mono ?_
            rintro e9 w9 ⟨rfl, hb⟩
            clear x0 x1 xf xz y0 y1 yf yz
            replace HB := Lib.hid (HB.out.trans (hb.mono HB.out.size))
            replace HX := Lib.hid (HX.out.later hb)
            replace HY := Lib.hid (HY.out.later hb)
            replace HV := Lib.hid (HV.out.later hb)
            replace HSLw := Lib.hid (HSLw.out.later hb)
            clear hb
            have HN := Lib.hid (Box.new w9 #[.int .i64 (max 0 (g1 - t2)), .int .i64 (g2 - t1)] 34)
            have hba := alloc_below w9 (.cells #[.int .i64 (max 0 (g1 - t2)), .int .i64 (g2 - t1)] 34)
            replace HB := Lib.hid (HB.out.trans (hba.mono HB.out.size))
            replace HX := Lib.hid (HX.out.later hba)
            replace HY := Lib.hid (HY.out.later hba)
            replace HV := Lib.hid (HV.out.later hba)
            replace HSLw := Lib.hid (HSLw.out.later hba)
            clear hba
            obtain ⟨x0, x1, xf, xz⟩ := HX.out.v2
            obtain ⟨y0, y1, yf, yz⟩ := HY.out.v2
            go_wp2_with fail
            clear x0 x1 xf xz y0 y1 yf yz
            generalize hw10 : w9.alloc (.cells #[.int .i64 (max 0 (g1 - t2)), .int .i64 (g2 - t1)] 34) = w10 at *
            generalize w9.heap.size = nq at *
            clear hw10
            refine wp_region_joinS 10 (StJ w10 [.agg #[.int .i64 g1, .int .i64 g2], .agg #[.string (txz g1), .string (txz g2)], .agg #[.int .i64 t1, .int .i64 t2], .agg #[.string (txz t1), .string (txz t2)], .tuple #[.agg #[.string (txz (g1 - t2)), .string (txz (g2 - t1))], .int .i64 0], .tuple #[.agg #[.string (txz (g1 - t2)), .string (txz (g2 - t1))], .int .i64 0], .agg #[.string (txz (g1 - t2)), .string (txz (g2 - t1))], .int .i64 0] 39 [.string ⟨#[]⟩, .string ⟨#[]⟩] [.string (txz (g1 - t2)), .string (txz (g2 - t1))] 8 9) (by kernel_rfl) (by kernel_rfl) (StJ.start rfl) ?_ ?_
            · refine ⟨?_, ?_, ?_, ?_, ?_, ?_, ?_, ?_, ?_, ?_, trivial⟩
              all_goals
                intro D vs u hD hdep hJ
                have hu := hJ.later
                simp only [putsN, List.take_succ_cons, List.take_zero, Act.put, List.setIfInBounds_toArray, List.set_cons_succ, List.set_cons_zero]
              · obtain ⟨x0, x1, xf, xz⟩ := (HX.out.later hu).v2
                refine ⟨fun v u' => v = .agg #[.int .i64 g1, .int .i64 g2] ∧ u' = u, ?_, ?_⟩
                · clear hD hdep hJ hu
                  go_wp2_with fail
                  refine ⟨rfl, rfl, .agg #[.int .i64 g1, .int .i64 g2], ?_, rfl, rfl⟩
                  intro t h
                  cases h
                  first | rfl
                · rintro v u' ⟨rfl, rfl⟩
                  exact hJ.quiet 0 (by decide) (by decide) (fun v' h => by injection h) (Below.refl _ _)
              · have e0 : vs 0 = .agg #[.int .i64 g1, .int .i64 g2] := hJ.val 0 _ rfl (hdep 0 (by decide) (by kernel_rfl))
                have HS := Lib.hid (HRGG.out u)
                refine ⟨fun v u' => v = .agg #[.string (txz g1), .string (txz g2)] ∧ Below u.heap.size u u', ?_, ?_⟩
                · clear hD hdep hJ hu
                  go_wp2_with fail
                  refine HS.out.mono ?_
                  rintro e11 w11 ⟨rfl, hb⟩
                  go_wp2_with fail
                  refine ⟨rfl, rfl, .agg #[.string (txz g1), .string (txz g2)], ?_, rfl, hb⟩
                  intro t h
                  cases h
                  first | rfl | exact congrArg some e0
                · rintro v u' ⟨rfl, hb⟩
                  exact hJ.quiet 1 (by decide) (by decide) (fun v' h => by injection h) hb
              · obtain ⟨y0, y1, yf, yz⟩ := (HY.out.later hu).v2
                refine ⟨fun v u' => v = .agg #[.int .i64 t1, .int .i64 t2] ∧ u' = u, ?_, ?_⟩
                · clear hD hdep hJ hu
                  go_wp2_with fail
                  refine ⟨rfl, rfl, .agg #[.int .i64 t1, .int .i64 t2], ?_, rfl, rfl⟩
                  intro t h
                  cases h
                  first | rfl
                · rintro v u' ⟨rfl, rfl⟩
                  exact hJ.quiet 2 (by decide) (by decide) (fun v' h => by injection h) (Below.refl _ _)
              · have e2 : vs 2 = .agg #[.int .i64 t1, .int .i64 t2] := hJ.val 2 _ rfl (hdep 2 (by decide) (by kernel_rfl))
                have HS := Lib.hid (HRTT.out u)
                refine ⟨fun v u' => v = .agg #[.string (txz t1), .string (txz t2)] ∧ Below u.heap.size u u', ?_, ?_⟩
                · clear hD hdep hJ hu
                  go_wp2_with fail
                  refine HS.out.mono ?_
                  rintro e11 w11 ⟨rfl, hb⟩
                  go_wp2_with fail
                  refine ⟨rfl, rfl, .agg #[.string (txz t1), .string (txz t2)], ?_, rfl, hb⟩
                  intro t h
                  cases h
                  first | rfl | exact congrArg some e2
                · rintro v u' ⟨rfl, hb⟩
                  exact hJ.quiet 3 (by decide) (by decide) (fun v' h => by injection h) hb
              · have e1 : vs 1 = .agg #[.string (txz g1), .string (txz g2)] := hJ.val 1 _ rfl (hdep 1 (by decide) (by kernel_rfl))
                have e3 : vs 3 = .agg #[.string (txz t1), .string (txz t2)] := hJ.val 3 _ rfl (hdep 3 (by decide) (by kernel_rfl))
                have HS := Lib.hid (HSUB.out u (HB.out.trans (hu.mono HB.out.size)))
                refine ⟨fun v u' => v = .tuple #[.agg #[.string (txz (g1 - t2)), .string (txz (g2 - t1))], .int .i64 0] ∧ Below u.heap.size u u', ?_, ?_⟩
                · clear hD hdep hJ hu
                  go_wp2_with fail
                  refine HS.out.mono ?_
                  rintro e11 w11 ⟨rfl, hb⟩
                  go_wp2_with fail
                  refine ⟨rfl, rfl, .tuple #[.agg #[.string (txz (g1 - t2)), .string (txz (g2 - t1))], .int .i64 0], ?_, rfl, hb⟩
                  intro t h
                  cases h
                  first | rfl | exact congrArg some e1 | exact congrArg some e3
                · rintro v u' ⟨rfl, hb⟩
                  exact hJ.quiet 4 (by decide) (by decide) (fun v' h => by injection h) hb
              · have e4 : vs 4 = .tuple #[.agg #[.string (txz (g1 - t2)), .string (txz (g2 - t1))], .int .i64 0] := hJ.val 4 _ rfl (hdep 4 (by decide) (by kernel_rfl))
                refine ⟨fun v u' => v = .tuple #[.agg #[.string (txz (g1 - t2)), .string (txz (g2 - t1))], .int .i64 0] ∧ u' = u, ?_, ?_⟩
                · clear hD hdep hJ hu
                  go_wp2_with fail
                  refine ⟨rfl, rfl, .tuple #[.agg #[.string (txz (g1 - t2)), .string (txz (g2 - t1))], .int .i64 0], ?_, rfl, rfl⟩
                  intro t h
                  cases h
                  first | rfl | exact congrArg some e4
                · rintro v u' ⟨rfl, rfl⟩
                  exact hJ.quiet 5 (by decide) (by decide) (fun v' h => by injection h) (Below.refl _ _)
              · have e5 : vs 5 = .tuple #[.agg #[.string (txz (g1 - t2)), .string (txz (g2 - t1))], .int .i64 0] := hJ.val 5 _ rfl (hdep 5 (by decide) (by kernel_rfl))
                refine ⟨fun v u' => v = .agg #[.string (txz (g1 - t2)), .string (txz (g2 - t1))] ∧ u' = u, ?_, ?_⟩
                · clear hD hdep hJ hu
                  go_wp2_with fail
                  refine ⟨rfl, rfl, .agg #[.string (txz (g1 - t2)), .string (txz (g2 - t1))], ?_, rfl, rfl⟩
                  intro t h
                  cases h
                  first | rfl | exact congrArg some e5
                · rintro v u' ⟨rfl, rfl⟩
                  exact hJ.quiet 6 (by decide) (by decide) (fun v' h => by injection h) (Below.refl _ _)
              · have e5 : vs 5 = .tuple #[.agg #[.string (txz (g1 - t2)), .string (txz (g2 - t1))], .int .i64 0] := hJ.val 5 _ rfl (hdep 5 (by decide) (by kernel_rfl))
                refine ⟨fun v u' => v = .int .i64 0 ∧ u' = u, ?_, ?_⟩
                · clear hD hdep hJ hu
                  go_wp2_with fail
                  refine ⟨rfl, rfl, .int .i64 0, ?_, rfl, rfl⟩
                  intro t h
                  cases h
                  first | rfl | exact congrArg some e5
                · rintro v u' ⟨rfl, rfl⟩
                  exact hJ.quiet 7 (by decide) (by decide) (fun v' h => by injection h) (Below.refl _ _)
              · refine ⟨fun v u' => v = .pointer (some ⟨u.heap.size, 0, none⟩) ∧ u' = u.alloc (.cells #[.string ⟨#[]⟩, .string ⟨#[]⟩] 39), ?_, ?_⟩
                · clear hD hdep hJ hu
                  go_wp2_with fail
                  refine ⟨rfl, rfl, .pointer (some ⟨u.heap.size, 0, none⟩), ?_, rfl, rfl⟩
                  intro t h
                  cases h
                  first | rfl
                · rintro v u' ⟨rfl, rfl⟩
                  exact hJ.new (by decide) rfl hD
              · have e6 : vs 6 = .agg #[.string (txz (g1 - t2)), .string (txz (g2 - t1))] := hJ.val 6 _ rfl (hdep 6 (by decide) (by kernel_rfl))
                obtain ⟨h, eh, hlh, hxh⟩ := hJ.box (hdep 8 (by decide) (by kernel_rfl))
                rw [hD] at hxh
                simp only [Bool.false_eq_true, if_false] at hxh
                refine ⟨fun v u' => Below w10.heap.size u u' ∧ Box u' h 39 [.string (txz (g1 - t2)), .string (txz (g2 - t1))], ?_, ?_⟩
                · have HXH := Lib.hid hxh
                  have HLH := Lib.hid hlh
                  obtain ⟨q0, q1, qf, qz⟩ := hxh.v2
                  clear hD hdep hJ hu hlh
                  go_wp2_with fail
                  refine ⟨rfl, rfl, undef, ?_, ?_, ?_⟩
                  · intro t h
                    cases h
                  · exact (((Below.refl _ _).setCell (p := ⟨h, 0, none⟩) HLH.out (.string (txz (g1 - t2)))).setCell (p := ⟨h, 1, none⟩) HLH.out (.string (txz (g2 - t1))))
                  · exact ((HXH.out.set 0 (.string (txz (g1 - t2)))).set 1 (.string (txz (g2 - t1))))
                · rintro v u' ⟨h1, h2⟩
                  exact hJ.put (by decide) rfl (hdep 8 (by decide) (by kernel_rfl)) eh h1 hlh h2
            · intro D vs u hD hJ
              have e7 : vs 7 = .int .i64 0 := hJ.val 7 _ rfl (hD 7 (by decide))
              obtain ⟨hz, e8, hlh, hbh⟩ := hJ.box (hD 8 (by decide))
              rw [hD 9 (by decide)] at hbh
              simp only [if_true] at hbh
              have hu := hJ.later
              simp only [putsN, List.drop_succ_cons, List.drop_zero, List.take_succ_cons, List.take_zero, Act.put, List.setIfInBounds_toArray, List.set_cons_succ, List.set_cons_zero, e7, e8]
              have HE := Lib.hid hbh
              replace HN := Lib.hid (HN.out.later hu)
              replace HB := Lib.hid (HB.out.trans (hu.mono HB.out.size))
              clear hD hJ hu e7 e8 hbh hlh HX HY
              obtain ⟨e0, e1, ef, ez⟩ := HE.out.v2
              go_wp2_with fail
              refine (HCS.out _).mono ?_
              rintro e10 w11 ⟨rfl, hb⟩
              replace HE := Lib.hid (HE.out.later hb)
              replace HN := Lib.hid (HN.out.later hb)
              replace HB := Lib.hid (HB.out.trans (hb.mono HB.out.size))
              clear hb
              clear e0 e1 ef ez
              obtain ⟨e0, e1, ef, ez⟩ := HE.out.v2
              obtain ⟨n0, n1, nf, nz⟩ := HN.out.v2
              go_wp2_with fail
              have HRL := Lib.hid (fun X : Later _ => HR.out X.w (HB.out.trans (X.h.mono HB.out.size)))
              refine wp_region_later (by kernel_rfl) (by kernel_rfl) ?_
              repeat go_big_quiet_step ((first | (go_at_call 18; first | with_reducible exact Calls.later (HF1.out _) | with_reducible exact Calls.later (HF2.out _)) | (go_at_call 27; exact Calls.later (HMX.out _)) | (go_at_call 7; exact Calls.later (HRL.out _))))
              refine wpQuiet_nil ?_
              rintro w12 ⟨⟨_, hb2⟩, rfl⟩
              replace HB := Lib.hid (HB.out.trans (hb2.mono HB.out.size))
              clear hb2
              go_wp2_with fail
              go_ret
              exact ⟨rfl, HB.out⟩
          · obtain ⟨n1, hn1⟩ : ∃ x, (netF ⟨g1, g2⟩ ⟨t1, t2⟩).lo = x := ⟨_, rfl⟩
            obtain ⟨n2, hn2⟩ : ∃ x, (netF ⟨g1, g2⟩ ⟨t1, t2⟩).hi = x := ⟨_, rfl⟩
            have HNT1 := Lib.hid (fun (w1 : World) => (by have h := HNT.out w1; rw [hnb, hn1, hn2] at h; exact h : Calls Tryz.prog 25 #[.agg #[.int .i64 g1, .int .i64 g2], .agg #[.int .i64 t1, .int .i64 t2]] w1 (Ret (.tuple #[.agg #[.int .i64 n1, .int .i64 n2], .int .i64 15]) w1)))
            have HSG := Lib.hid (fun (w1 : World) => (by
              have h := rsign26 w1 ((g2 - t1 : Int) : Rat) (by have := ratL_len_int (z := g2 - t1) (by omega); omega)
              rw [txq_int, Rat.num_intCast, Int.sign_eq_neg_one_of_neg (show g2 - t1 < 0 by omega)] at h
              exact h : Calls Tryz.prog 26 #[.string (txz (g2 - t1))] w1 fun e w' => e = .returned (.int .i64 (-1)) ∧ w1 = w'))
            clear hnb hlt hn1 hn2 HNN HNT
            obtain ⟨x0, x1, xf, xz⟩ := HX.out.v2
            obtain ⟨y0, y1, yf, yz⟩ := HY.out.v2
            go_wp2_with fail
            refine (HNT1.out _).mono ?_
            rintro e9 w9 ⟨rfl, hb⟩
            clear x0 x1 xf xz y0 y1 yf yz
            replace HB := Lib.hid (HB.out.trans (hb.mono HB.out.size))
            replace HX := Lib.hid (HX.out.later hb)
            replace HY := Lib.hid (HY.out.later hb)
            replace HV := Lib.hid (HV.out.later hb)
            replace HSLw := Lib.hid (HSLw.out.later hb)
            clear hb
            have HN := Lib.hid (Box.new w9 #[.int .i64 n1, .int .i64 n2] 34)
            have hba := alloc_below w9 (.cells #[.int .i64 n1, .int .i64 n2] 34)
            replace HB := Lib.hid (HB.out.trans (hba.mono HB.out.size))
            replace HX := Lib.hid (HX.out.later hba)
            replace HY := Lib.hid (HY.out.later hba)
            replace HV := Lib.hid (HV.out.later hba)
            replace HSLw := Lib.hid (HSLw.out.later hba)
            clear hba
            obtain ⟨x0, x1, xf, xz⟩ := HX.out.v2
            obtain ⟨y0, y1, yf, yz⟩ := HY.out.v2
            go_wp2_with fail
            clear x0 x1 xf xz y0 y1 yf yz
            generalize hw10 : w9.alloc (.cells #[.int .i64 n1, .int .i64 n2] 34) = w10 at *
            generalize w9.heap.size = nq at *
            clear hw10
            refine wp_region_joinS 10 (StJ w10 [.agg #[.int .i64 g1, .int .i64 g2], .agg #[.string (txz g1), .string (txz g2)], .agg #[.int .i64 t1, .int .i64 t2], .agg #[.string (txz t1), .string (txz t2)], .tuple #[.agg #[.string (txz (g1 - t2)), .string (txz (g2 - t1))], .int .i64 0], .tuple #[.agg #[.string (txz (g1 - t2)), .string (txz (g2 - t1))], .int .i64 0], .agg #[.string (txz (g1 - t2)), .string (txz (g2 - t1))], .int .i64 0] 39 [.string ⟨#[]⟩, .string ⟨#[]⟩] [.string (txz (g1 - t2)), .string (txz (g2 - t1))] 8 9) (by kernel_rfl) (by kernel_rfl) (StJ.start rfl) ?_ ?_
            · refine ⟨?_, ?_, ?_, ?_, ?_, ?_, ?_, ?_, ?_, ?_, trivial⟩
              all_goals
                intro D vs u hD hdep hJ
                have hu := hJ.later
                simp only [putsN, List.take_succ_cons, List.take_zero, Act.put, List.setIfInBounds_toArray, List.set_cons_succ, List.set_cons_zero]
              · obtain ⟨x0, x1, xf, xz⟩ := (HX.out.later hu).v2
                refine ⟨fun v u' => v = .agg #[.int .i64 g1, .int .i64 g2] ∧ u' = u, ?_, ?_⟩
                · clear hD hdep hJ hu
                  go_wp2_with fail
                  refine ⟨rfl, rfl, .agg #[.int .i64 g1, .int .i64 g2], ?_, rfl, rfl⟩
                  intro t h
                  cases h
                  first | rfl
                · rintro v u' ⟨rfl, rfl⟩
                  exact hJ.quiet 0 (by decide) (by decide) (fun v' h => by injection h) (Below.refl _ _)
              · have e0 : vs 0 = .agg #[.int .i64 g1, .int .i64 g2] := hJ.val 0 _ rfl (hdep 0 (by decide) (by kernel_rfl))
                have HS := Lib.hid (HRGG.out u)
                refine ⟨fun v u' => v = .agg #[.string (txz g1), .string (txz g2)] ∧ Below u.heap.size u u', ?_, ?_⟩
                · clear hD hdep hJ hu
                  go_wp2_with fail
                  refine HS.out.mono ?_
                  rintro e11 w11 ⟨rfl, hb⟩
                  go_wp2_with fail
                  refine ⟨rfl, rfl, .agg #[.string (txz g1), .string (txz g2)], ?_, rfl, hb⟩
                  intro t h
                  cases h
                  first | rfl | exact congrArg some e0
                · rintro v u' ⟨rfl, hb⟩
                  exact hJ.quiet 1 (by decide) (by decide) (fun v' h => by injection h) hb
              · obtain ⟨y0, y1, yf, yz⟩ := (HY.out.later hu).v2
                refine ⟨fun v u' => v = .agg #[.int .i64 t1, .int .i64 t2] ∧ u' = u, ?_, ?_⟩
                · clear hD hdep hJ hu
                  go_wp2_with fail
                  refine ⟨rfl, rfl, .agg #[.int .i64 t1, .int .i64 t2], ?_, rfl, rfl⟩
                  intro t h
                  cases h
                  first | rfl
                · rintro v u' ⟨rfl, rfl⟩
                  exact hJ.quiet 2 (by decide) (by decide) (fun v' h => by injection h) (Below.refl _ _)
              · have e2 : vs 2 = .agg #[.int .i64 t1, .int .i64 t2] := hJ.val 2 _ rfl (hdep 2 (by decide) (by kernel_rfl))
                have HS := Lib.hid (HRTT.out u)
                refine ⟨fun v u' => v = .agg #[.string (txz t1), .string (txz t2)] ∧ Below u.heap.size u u', ?_, ?_⟩
                · clear hD hdep hJ hu
                  go_wp2_with fail
                  refine HS.out.mono ?_
                  rintro e11 w11 ⟨rfl, hb⟩
                  go_wp2_with fail
                  refine ⟨rfl, rfl, .agg #[.string (txz t1), .string (txz t2)], ?_, rfl, hb⟩
                  intro t h
                  cases h
                  first | rfl | exact congrArg some e2
                · rintro v u' ⟨rfl, hb⟩
                  exact hJ.quiet 3 (by decide) (by decide) (fun v' h => by injection h) hb
              · have e1 : vs 1 = .agg #[.string (txz g1), .string (txz g2)] := hJ.val 1 _ rfl (hdep 1 (by decide) (by kernel_rfl))
                have e3 : vs 3 = .agg #[.string (txz t1), .string (txz t2)] := hJ.val 3 _ rfl (hdep 3 (by decide) (by kernel_rfl))
                have HS := Lib.hid (HSUB.out u (HB.out.trans (hu.mono HB.out.size)))
                refine ⟨fun v u' => v = .tuple #[.agg #[.string (txz (g1 - t2)), .string (txz (g2 - t1))], .int .i64 0] ∧ Below u.heap.size u u', ?_, ?_⟩
                · clear hD hdep hJ hu
                  go_wp2_with fail
                  refine HS.out.mono ?_
                  rintro e11 w11 ⟨rfl, hb⟩
                  go_wp2_with fail
                  refine ⟨rfl, rfl, .tuple #[.agg #[.string (txz (g1 - t2)), .string (txz (g2 - t1))], .int .i64 0], ?_, rfl, hb⟩
                  intro t h
                  cases h
                  first | rfl | exact congrArg some e1 | exact congrArg some e3
                · rintro v u' ⟨rfl, hb⟩
                  exact hJ.quiet 4 (by decide) (by decide) (fun v' h => by injection h) hb
              · have e4 : vs 4 = .tuple #[.agg #[.string (txz (g1 - t2)), .string (txz (g2 - t1))], .int .i64 0] := hJ.val 4 _ rfl (hdep 4 (by decide) (by kernel_rfl))
                refine ⟨fun v u' => v = .tuple #[.agg #[.string (txz (g1 - t2)), .string (txz (g2 - t1))], .int .i64 0] ∧ u' = u, ?_, ?_⟩
                · clear hD hdep hJ hu
                  go_wp2_with fail
                  refine ⟨rfl, rfl, .tuple #[.agg #[.string (txz (g1 - t2)), .string (txz (g2 - t1))], .int .i64 0], ?_, rfl, rfl⟩
                  intro t h
                  cases h
                  first | rfl | exact congrArg some e4
                · rintro v u' ⟨rfl, rfl⟩
                  exact hJ.quiet 5 (by decide) (by decide) (fun v' h => by injection h) (Below.refl _ _)
              · have e5 : vs 5 = .tuple #[.agg #[.string (txz (g1 - t2)), .string (txz (g2 - t1))], .int .i64 0] := hJ.val 5 _ rfl (hdep 5 (by decide) (by kernel_rfl))
                refine ⟨fun v u' => v = .agg #[.string (txz (g1 - t2)), .string (txz (g2 - t1))] ∧ u' = u, ?_, ?_⟩
                · clear hD hdep hJ hu
                  go_wp2_with fail
                  refine ⟨rfl, rfl, .agg #[.string (txz (g1 - t2)), .string (txz (g2 - t1))], ?_, rfl, rfl⟩
                  intro t h
                  cases h
                  first | rfl | exact congrArg some e5
                · rintro v u' ⟨rfl, rfl⟩
                  exact hJ.quiet 6 (by decide) (by decide) (fun v' h => by injection h) (Below.refl _ _)
              · have e5 : vs 5 = .tuple #[.agg #[.string (txz (g1 - t2)), .string (txz (g2 - t1))], .int .i64 0] := hJ.val 5 _ rfl (hdep 5 (by decide) (by kernel_rfl))
                refine ⟨fun v u' => v = .int .i64 0 ∧ u' = u, ?_, ?_⟩
                · clear hD hdep hJ hu
                  go_wp2_with fail
                  refine ⟨rfl, rfl, .int .i64 0, ?_, rfl, rfl⟩
                  intro t h
                  cases h
                  first | rfl | exact congrArg some e5
                · rintro v u' ⟨rfl, rfl⟩
                  exact hJ.quiet 7 (by decide) (by decide) (fun v' h => by injection h) (Below.refl _ _)
              · refine ⟨fun v u' => v = .pointer (some ⟨u.heap.size, 0, none⟩) ∧ u' = u.alloc (.cells #[.string ⟨#[]⟩, .string ⟨#[]⟩] 39), ?_, ?_⟩
                · clear hD hdep hJ hu
                  go_wp2_with fail
                  refine ⟨rfl, rfl, .pointer (some ⟨u.heap.size, 0, none⟩), ?_, rfl, rfl⟩
                  intro t h
                  cases h
                  first | rfl
                · rintro v u' ⟨rfl, rfl⟩
                  exact hJ.new (by decide) rfl hD
              · have e6 : vs 6 = .agg #[.string (txz (g1 - t2)), .string (txz (g2 - t1))] := hJ.val 6 _ rfl (hdep 6 (by decide) (by kernel_rfl))
                obtain ⟨h, eh, hlh, hxh⟩ := hJ.box (hdep 8 (by decide) (by kernel_rfl))
                rw [hD] at hxh
                simp only [Bool.false_eq_true, if_false] at hxh
                refine ⟨fun v u' => Below w10.heap.size u u' ∧ Box u' h 39 [.string (txz (g1 - t2)), .string (txz (g2 - t1))], ?_, ?_⟩
                · have HXH := Lib.hid hxh
                  have HLH := Lib.hid hlh
                  obtain ⟨q0, q1, qf, qz⟩ := hxh.v2
                  clear hD hdep hJ hu hlh
                  go_wp2_with fail
                  refine ⟨rfl, rfl, undef, ?_, ?_, ?_⟩
                  · intro t h
                    cases h
                  · exact (((Below.refl _ _).setCell (p := ⟨h, 0, none⟩) HLH.out (.string (txz (g1 - t2)))).setCell (p := ⟨h, 1, none⟩) HLH.out (.string (txz (g2 - t1))))
                  · exact ((HXH.out.set 0 (.string (txz (g1 - t2)))).set 1 (.string (txz (g2 - t1))))
                · rintro v u' ⟨h1, h2⟩
                  exact hJ.put (by decide) rfl (hdep 8 (by decide) (by kernel_rfl)) eh h1 hlh h2
            · intro D vs u hD hJ
              have e7 : vs 7 = .int .i64 0 := hJ.val 7 _ rfl (hD 7 (by decide))
              obtain ⟨hz, e8, hlh, hbh⟩ := hJ.box (hD 8 (by decide))
              rw [hD 9 (by decide)] at hbh
              simp only [if_true] at hbh
              have hu := hJ.later
              simp only [putsN, List.drop_succ_cons, List.drop_zero, List.take_succ_cons, List.take_zero, Act.put, List.setIfInBounds_toArray, List.set_cons_succ, List.set_cons_zero, e7, e8]
              have HE := Lib.hid hbh
              replace HN := Lib.hid (HN.out.later hu)
              replace HB := Lib.hid (HB.out.trans (hu.mono HB.out.size))
              clear hD hJ hu e7 e8 hbh hlh HX HY
              obtain ⟨e0, e1, ef, ez⟩ := HE.out.v2
              go_wp2_with fail
              refine (HCS.out _).mono ?_
              rintro e10 w11 ⟨rfl, hb⟩
              replace HE := Lib.hid (HE.out.later hb)
              replace HN := Lib.hid (HN.out.later hb)
              replace HB := Lib.hid (HB.out.trans (hb.mono HB.out.size))
              clear hb
              clear e0 e1 ef ez
              obtain ⟨e0, e1, ef, ez⟩ := HE.out.v2
              obtain ⟨n0, n1, nf, nz⟩ := HN.out.v2
              go_wp2_with fail
              refine (HSG.out _).mono ?_
              rintro e11 w12 ⟨rfl, rfl⟩
              go_wp2_with fail
              refine (HR.out _ HB.out).mono ?_
              rintro e12 w13 ⟨rfl, hb⟩
              replace HB := Lib.hid (HB.out.trans (hb.mono HB.out.size))
              clear hb
              go_wp2_with fail
              go_ret
              exact ⟨rfl, HB.out⟩
        · obtain ⟨a1, ha1⟩ : ∃ x, (agR l).lo = x := ⟨_, rfl⟩
          obtain ⟨a2, ha2⟩ : ∃ x, (agR l).hi = x := ⟨_, rfl⟩
          have HAG1 := Lib.hid (fun (w1 : World) (h : Sl Rg.enc 2 w1 w1.heap.size (.slice a k c) l) => (by have h := HAGF.out w1 h; rw [hae, ha1, ha2] at h; exact h : Calls Tryz.prog 22 #[.slice a k c] w1 (Ret (.tuple #[.agg #[.int .i64 a1, .int .i64 a2], .int .i64 15]) w1)))
          have HMT1 := Lib.hid (fun (w1 : World) (hb : Below w.heap.size w w1) (h : Sl encP 2 w1 w1.heap.size v (spans l)) => (by have h := HMT.out w1 hb h; rw [if_neg (by omega)] at h; exact h : Calls Tryz.prog 23 #[v] w1 (Ret (.tuple #[.agg #[.string ⟨#[]⟩, .string ⟨#[]⟩], .int .i64 15]) w1)))
          have HRA0 := Lib.hid (fun (w1 : World) => HR.out w1)
          have HLT2 := Lib.hid hlt
          clear hae hlt ha1 ha2 HAG HAGF HMT HRA
          go_wp2_with fail
          refine (HAG1.out _ HSLw.out).mono ?_
          rintro e5 w5 ⟨rfl, hb⟩
          replace HB := Lib.hid (HB.out.trans (hb.mono HB.out.size))
          replace HX := Lib.hid (HX.out.later hb)
          replace HY := Lib.hid (HY.out.later hb)
          replace HV := Lib.hid (HV.out.later hb)
          replace HSLw := Lib.hid (HSLw.out.later hb)
          clear hb
          have HA := Lib.hid (Box.new w5 #[.int .i64 a1, .int .i64 a2] 34)
          have hba := alloc_below w5 (.cells #[.int .i64 a1, .int .i64 a2] 34)
          replace HB := Lib.hid (HB.out.trans (hba.mono HB.out.size))
          replace HX := Lib.hid (HX.out.later hba)
          replace HY := Lib.hid (HY.out.later hba)
          replace HV := Lib.hid (HV.out.later hba)
          replace HSLw := Lib.hid (HSLw.out.later hba)
          clear hba
          go_wp2_with fail
          refine (HMT1.out _ HB.out HV.out).mono ?_
          rintro e6 w6 ⟨rfl, hb⟩
          replace HB := Lib.hid (HB.out.trans (hb.mono HB.out.size))
          replace HX := Lib.hid (HX.out.later hb)
          replace HY := Lib.hid (HY.out.later hb)
          replace HA := Lib.hid (HA.out.later hb)
          replace HV := Lib.hid (HV.out.later hb)
          replace HSLw := Lib.hid (HSLw.out.later hb)
          clear hb
          have HM := Lib.hid (Box.new w6 #[.string ⟨#[]⟩, .string ⟨#[]⟩] 39)
          have hba := alloc_below w6 (.cells #[.string ⟨#[]⟩, .string ⟨#[]⟩] 39)
          replace HB := Lib.hid (HB.out.trans (hba.mono HB.out.size))
          replace HX := Lib.hid (HX.out.later hba)
          replace HY := Lib.hid (HY.out.later hba)
          replace HA := Lib.hid (HA.out.later hba)
          replace HV := Lib.hid (HV.out.later hba)
          replace HSLw := Lib.hid (HSLw.out.later hba)
          clear hba
          go_wp2_with fail
          refine (HCL.out _ HB.out HV.out).mono ?_
          rintro e7 w7 ⟨ci, ck, cr, rfl, hcr, hb⟩
          replace HB := Lib.hid (HB.out.trans (hb.mono HB.out.size))
          replace HX := Lib.hid (HX.out.later hb)
          replace HY := Lib.hid (HY.out.later hb)
          replace HA := Lib.hid (HA.out.later hb)
          replace HM := Lib.hid (HM.out.later hb)
          replace HV := Lib.hid (HV.out.later hb)
          replace HSLw := Lib.hid (HSLw.out.later hb)
          clear hb
          have hcr2 : cr = 0 := by rcases hcr with ⟨_, h⟩ | ⟨h, _⟩; exact absurd (HCI.out.2 HLT2.out) h; exact h
          subst hcr2
          clear hcr
          obtain ⟨a0, a1, af, az⟩ := HA.out.v2
          obtain ⟨m0, m1, mf, mz⟩ := HM.out.v2
          go_wp2_with fail
          refine wp_region_later (by kernel_rfl) (by kernel_rfl) ?_
          repeat go_big_quiet_step ((go_at_call 12; exact Calls.later (HRA0.out _)))
          refine wpQuiet_nil ?_
          rintro w8 ⟨⟨_, hb2⟩, rfl⟩
          clear a0 a1 af az m0 m1 mf mz
          replace HB := Lib.hid (HB.out.trans (hb2.mono HB.out.size))
          replace HX := Lib.hid (HX.out.later hb2)
          replace HY := Lib.hid (HY.out.later hb2)
          replace HV := Lib.hid (HV.out.later hb2)
          replace HSLw := Lib.hid (HSLw.out.later hb2)
          clear hb2
          clear HA HM
          rcases HNN.out with ⟨hnb, hnf, hle⟩ | ⟨hnb, hlt⟩
          · have HNT0 := Lib.hid (fun (w1 : World) => (by have h := HNT.out w1; rw [hnb, hnf] at h; exact h : Calls Tryz.prog 25 #[.agg #[.int .i64 g1, .int .i64 g2], .agg #[.int .i64 t1, .int .i64 t2]] w1 (Ret (.tuple #[.agg #[.int .i64 (max 0 (g1 - t2)), .int .i64 (g2 - t1)], .int .i64 0]) w1)))
            have kmx : decide ((0 : Int) ≤ max 0 (g1 - t2)) = true := decide_eq_true (by omega)
            clear hnb hnf hle HNN HNT
            obtain ⟨x0, x1, xf, xz⟩ := HX.out.v2
            obtain ⟨y0, y1, yf, yz⟩ := HY.out.v2
            go_wp2_with fail
            refine (HNT0.out _).mono ?_
            rintro e9 w9 ⟨rfl, hb⟩
            clear x0 x1 xf xz y0 y1 yf yz
            replace HB := Lib.hid (HB.out.trans (hb.mono HB.out.size))
            replace HX := Lib.hid (HX.out.later hb)
            replace HY := Lib.hid (HY.out.later hb)
            replace HV := Lib.hid (HV.out.later hb)
            replace HSLw := Lib.hid (HSLw.out.later hb)
            clear hb
            have HN := Lib.hid (Box.new w9 #[.int .i64 (max 0 (g1 - t2)), .int .i64 (g2 - t1)] 34)
            have hba := alloc_below w9 (.cells #[.int .i64 (max 0 (g1 - t2)), .int .i64 (g2 - t1)] 34)
            replace HB := Lib.hid (HB.out.trans (hba.mono HB.out.size))
            replace HX := Lib.hid (HX.out.later hba)
            replace HY := Lib.hid (HY.out.later hba)
            replace HV := Lib.hid (HV.out.later hba)
            replace HSLw := Lib.hid (HSLw.out.later hba)
            clear hba
            obtain ⟨x0, x1, xf, xz⟩ := HX.out.v2
            obtain ⟨y0, y1, yf, yz⟩ := HY.out.v2
            go_wp2_with fail
            clear x0 x1 xf xz y0 y1 yf yz
            generalize hw10 : w9.alloc (.cells #[.int .i64 (max 0 (g1 - t2)), .int .i64 (g2 - t1)] 34) = w10 at *
            generalize w9.heap.size = nq at *
            clear hw10
            refine wp_region_joinS 10 (StJ w10 [.agg #[.int .i64 g1, .int .i64 g2], .agg #[.string (txz g1), .string (txz g2)], .agg #[.int .i64 t1, .int .i64 t2], .agg #[.string (txz t1), .string (txz t2)], .tuple #[.agg #[.string (txz (g1 - t2)), .string (txz (g2 - t1))], .int .i64 0], .tuple #[.agg #[.string (txz (g1 - t2)), .string (txz (g2 - t1))], .int .i64 0], .agg #[.string (txz (g1 - t2)), .string (txz (g2 - t1))], .int .i64 0] 39 [.string ⟨#[]⟩, .string ⟨#[]⟩] [.string (txz (g1 - t2)), .string (txz (g2 - t1))] 8 9) (by kernel_rfl) (by kernel_rfl) (StJ.start rfl) ?_ ?_
            · refine ⟨?_, ?_, ?_, ?_, ?_, ?_, ?_, ?_, ?_, ?_, trivial⟩
              all_goals
                intro D vs u hD hdep hJ
                have hu := hJ.later
                simp only [putsN, List.take_succ_cons, List.take_zero, Act.put, List.setIfInBounds_toArray, List.set_cons_succ, List.set_cons_zero]
              · obtain ⟨x0, x1, xf, xz⟩ := (HX.out.later hu).v2
                refine ⟨fun v u' => v = .agg #[.int .i64 g1, .int .i64 g2] ∧ u' = u, ?_, ?_⟩
                · clear hD hdep hJ hu
                  go_wp2_with fail
                  refine ⟨rfl, rfl, .agg #[.int .i64 g1, .int .i64 g2], ?_, rfl, rfl⟩
                  intro t h
                  cases h
                  first | rfl
                · rintro v u' ⟨rfl, rfl⟩
                  exact hJ.quiet 0 (by decide) (by decide) (fun v' h => by injection h) (Below.refl _ _)
              · have e0 : vs 0 = .agg #[.int .i64 g1, .int .i64 g2] := hJ.val 0 _ rfl (hdep 0 (by decide) (by kernel_rfl))
                have HS := Lib.hid (HRGG.out u)
                refine ⟨fun v u' => v = .agg #[.string (txz g1), .string (txz g2)] ∧ Below u.heap.size u u', ?_, ?_⟩
                · clear hD hdep hJ hu
                  go_wp2_with fail
                  refine HS.out.mono ?_
                  rintro e11 w11 ⟨rfl, hb⟩
                  go_wp2_with fail
                  refine ⟨rfl, rfl, .agg #[.string (txz g1), .string (txz g2)], ?_, rfl, hb⟩
                  intro t h
                  cases h
                  first | rfl | exact congrArg some e0
                · rintro v u' ⟨rfl, hb⟩
                  exact hJ.quiet 1 (by decide) (by decide) (fun v' h => by injection h) hb
              · obtain ⟨y0, y1, yf, yz⟩ := (HY.out.later hu).v2
                refine ⟨fun v u' => v = .agg #[.int .i64 t1, .int .i64 t2] ∧ u' = u, ?_, ?_⟩
                · clear hD hdep hJ hu
                  go_wp2_with fail
                  refine ⟨rfl, rfl, .agg #[.int .i64 t1, .int .i64 t2], ?_, rfl, rfl⟩
                  intro t h
                  cases h
                  first | rfl
                · rintro v u' ⟨rfl, rfl⟩
                  exact hJ.quiet 2 (by decide) (by decide) (fun v' h => by injection h) (Below.refl _ _)
              · have e2 : vs 2 = .agg #[.int .i64 t1, .int .i64 t2] := hJ.val 2 _ rfl (hdep 2 (by decide) (by kernel_rfl))
                have HS := Lib.hid (HRTT.out u)
                refine ⟨fun v u' => v = .agg #[.string (txz t1), .string (txz t2)] ∧ Below u.heap.size u u', ?_, ?_⟩
                · clear hD hdep hJ hu
                  go_wp2_with fail
                  refine HS.out.mono ?_
                  rintro e11 w11 ⟨rfl, hb⟩
                  go_wp2_with fail
                  refine ⟨rfl, rfl, .agg #[.string (txz t1), .string (txz t2)], ?_, rfl, hb⟩
                  intro t h
                  cases h
                  first | rfl | exact congrArg some e2
                · rintro v u' ⟨rfl, hb⟩
                  exact hJ.quiet 3 (by decide) (by decide) (fun v' h => by injection h) hb
              · have e1 : vs 1 = .agg #[.string (txz g1), .string (txz g2)] := hJ.val 1 _ rfl (hdep 1 (by decide) (by kernel_rfl))
                have e3 : vs 3 = .agg #[.string (txz t1), .string (txz t2)] := hJ.val 3 _ rfl (hdep 3 (by decide) (by kernel_rfl))
                have HS := Lib.hid (HSUB.out u (HB.out.trans (hu.mono HB.out.size)))
                refine ⟨fun v u' => v = .tuple #[.agg #[.string (txz (g1 - t2)), .string (txz (g2 - t1))], .int .i64 0] ∧ Below u.heap.size u u', ?_, ?_⟩
                · clear hD hdep hJ hu
                  go_wp2_with fail
                  refine HS.out.mono ?_
                  rintro e11 w11 ⟨rfl, hb⟩
                  go_wp2_with fail
                  refine ⟨rfl, rfl, .tuple #[.agg #[.string (txz (g1 - t2)), .string (txz (g2 - t1))], .int .i64 0], ?_, rfl, hb⟩
                  intro t h
                  cases h
                  first | rfl | exact congrArg some e1 | exact congrArg some e3
                · rintro v u' ⟨rfl, hb⟩
                  exact hJ.quiet 4 (by decide) (by decide) (fun v' h => by injection h) hb
              · have e4 : vs 4 = .tuple #[.agg #[.string (txz (g1 - t2)), .string (txz (g2 - t1))], .int .i64 0] := hJ.val 4 _ rfl (hdep 4 (by decide) (by kernel_rfl))
                refine ⟨fun v u' => v = .tuple #[.agg #[.string (txz (g1 - t2)), .string (txz (g2 - t1))], .int .i64 0] ∧ u' = u, ?_, ?_⟩
                · clear hD hdep hJ hu
                  go_wp2_with fail
                  refine ⟨rfl, rfl, .tuple #[.agg #[.string (txz (g1 - t2)), .string (txz (g2 - t1))], .int .i64 0], ?_, rfl, rfl⟩
                  intro t h
                  cases h
                  first | rfl | exact congrArg some e4
                · rintro v u' ⟨rfl, rfl⟩
                  exact hJ.quiet 5 (by decide) (by decide) (fun v' h => by injection h) (Below.refl _ _)
              · have e5 : vs 5 = .tuple #[.agg #[.string (txz (g1 - t2)), .string (txz (g2 - t1))], .int .i64 0] := hJ.val 5 _ rfl (hdep 5 (by decide) (by kernel_rfl))
                refine ⟨fun v u' => v = .agg #[.string (txz (g1 - t2)), .string (txz (g2 - t1))] ∧ u' = u, ?_, ?_⟩
                · clear hD hdep hJ hu
                  go_wp2_with fail
                  refine ⟨rfl, rfl, .agg #[.string (txz (g1 - t2)), .string (txz (g2 - t1))], ?_, rfl, rfl⟩
                  intro t h
                  cases h
                  first | rfl | exact congrArg some e5
                · rintro v u' ⟨rfl, rfl⟩
                  exact hJ.quiet 6 (by decide) (by decide) (fun v' h => by injection h) (Below.refl _ _)
              · have e5 : vs 5 = .tuple #[.agg #[.string (txz (g1 - t2)), .string (txz (g2 - t1))], .int .i64 0] := hJ.val 5 _ rfl (hdep 5 (by decide) (by kernel_rfl))
                refine ⟨fun v u' => v = .int .i64 0 ∧ u' = u, ?_, ?_⟩
                · clear hD hdep hJ hu
                  go_wp2_with fail
                  refine ⟨rfl, rfl, .int .i64 0, ?_, rfl, rfl⟩
                  intro t h
                  cases h
                  first | rfl | exact congrArg some e5
                · rintro v u' ⟨rfl, rfl⟩
                  exact hJ.quiet 7 (by decide) (by decide) (fun v' h => by injection h) (Below.refl _ _)
              · refine ⟨fun v u' => v = .pointer (some ⟨u.heap.size, 0, none⟩) ∧ u' = u.alloc (.cells #[.string ⟨#[]⟩, .string ⟨#[]⟩] 39), ?_, ?_⟩
                · clear hD hdep hJ hu
                  go_wp2_with fail
                  refine ⟨rfl, rfl, .pointer (some ⟨u.heap.size, 0, none⟩), ?_, rfl, rfl⟩
                  intro t h
                  cases h
                  first | rfl
                · rintro v u' ⟨rfl, rfl⟩
                  exact hJ.new (by decide) rfl hD
              · have e6 : vs 6 = .agg #[.string (txz (g1 - t2)), .string (txz (g2 - t1))] := hJ.val 6 _ rfl (hdep 6 (by decide) (by kernel_rfl))
                obtain ⟨h, eh, hlh, hxh⟩ := hJ.box (hdep 8 (by decide) (by kernel_rfl))
                rw [hD] at hxh
                simp only [Bool.false_eq_true, if_false] at hxh
                refine ⟨fun v u' => Below w10.heap.size u u' ∧ Box u' h 39 [.string (txz (g1 - t2)), .string (txz (g2 - t1))], ?_, ?_⟩
                · have HXH := Lib.hid hxh
                  have HLH := Lib.hid hlh
                  obtain ⟨q0, q1, qf, qz⟩ := hxh.v2
                  clear hD hdep hJ hu hlh
                  go_wp2_with fail
                  refine ⟨rfl, rfl, undef, ?_, ?_, ?_⟩
                  · intro t h
                    cases h
                  · exact (((Below.refl _ _).setCell (p := ⟨h, 0, none⟩) HLH.out (.string (txz (g1 - t2)))).setCell (p := ⟨h, 1, none⟩) HLH.out (.string (txz (g2 - t1))))
                  · exact ((HXH.out.set 0 (.string (txz (g1 - t2)))).set 1 (.string (txz (g2 - t1))))
                · rintro v u' ⟨h1, h2⟩
                  exact hJ.put (by decide) rfl (hdep 8 (by decide) (by kernel_rfl)) eh h1 hlh h2
            · intro D vs u hD hJ
              have e7 : vs 7 = .int .i64 0 := hJ.val 7 _ rfl (hD 7 (by decide))
              obtain ⟨hz, e8, hlh, hbh⟩ := hJ.box (hD 8 (by decide))
              rw [hD 9 (by decide)] at hbh
              simp only [if_true] at hbh
              have hu := hJ.later
              simp only [putsN, List.drop_succ_cons, List.drop_zero, List.take_succ_cons, List.take_zero, Act.put, List.setIfInBounds_toArray, List.set_cons_succ, List.set_cons_zero, e7, e8]
              have HE := Lib.hid hbh
              replace HN := Lib.hid (HN.out.later hu)
              replace HB := Lib.hid (HB.out.trans (hu.mono HB.out.size))
              clear hD hJ hu e7 e8 hbh hlh HX HY
              obtain ⟨e0, e1, ef, ez⟩ := HE.out.v2
              go_wp2_with fail
              refine (HCS.out _).mono ?_
              rintro e10 w11 ⟨rfl, hb⟩
              replace HE := Lib.hid (HE.out.later hb)
              replace HN := Lib.hid (HN.out.later hb)
              replace HB := Lib.hid (HB.out.trans (hb.mono HB.out.size))
              clear hb
              clear e0 e1 ef ez
              obtain ⟨e0, e1, ef, ez⟩ := HE.out.v2
              obtain ⟨n0, n1, nf, nz⟩ := HN.out.v2
              go_wp2_with fail
              have HRL := Lib.hid (fun X : Later _ => HR.out X.w (HB.out.trans (X.h.mono HB.out.size)))
              refine wp_region_later (by kernel_rfl) (by kernel_rfl) ?_
              repeat go_big_quiet_step ((first | (go_at_call 18; first | with_reducible exact Calls.later (HF1.out _) | with_reducible exact Calls.later (HF2.out _)) | (go_at_call 27; exact Calls.later (HMX.out _)) | (go_at_call 7; exact Calls.later (HRL.out _))))
              refine wpQuiet_nil ?_
              rintro w12 ⟨⟨_, hb2⟩, rfl⟩
              replace HB := Lib.hid (HB.out.trans (hb2.mono HB.out.size))
              clear hb2
              go_wp2_with fail
              go_ret
              exact ⟨rfl, HB.out⟩
          · obtain ⟨n1, hn1⟩ : ∃ x, (netF ⟨g1, g2⟩ ⟨t1, t2⟩).lo = x := ⟨_, rfl⟩
            obtain ⟨n2, hn2⟩ : ∃ x, (netF ⟨g1, g2⟩ ⟨t1, t2⟩).hi = x := ⟨_, rfl⟩
            have HNT1 := Lib.hid (fun (w1 : World) => (by have h := HNT.out w1; rw [hnb, hn1, hn2] at h; exact h : Calls Tryz.prog 25 #[.agg #[.int .i64 g1, .int .i64 g2], .agg #[.int .i64 t1, .int .i64 t2]] w1 (Ret (.tuple #[.agg #[.int .i64 n1, .int .i64 n2], .int .i64 15]) w1)))
            have HSG := Lib.hid (fun (w1 : World) => (by
              have h := rsign26 w1 ((g2 - t1 : Int) : Rat) (by have := ratL_len_int (z := g2 - t1) (by omega); omega)
              rw [txq_int, Rat.num_intCast, Int.sign_eq_neg_one_of_neg (show g2 - t1 < 0 by omega)] at h
              exact h : Calls Tryz.prog 26 #[.string (txz (g2 - t1))] w1 fun e w' => e = .returned (.int .i64 (-1)) ∧ w1 = w'))
            clear hnb hlt hn1 hn2 HNN HNT
            obtain ⟨x0, x1, xf, xz⟩ := HX.out.v2
            obtain ⟨y0, y1, yf, yz⟩ := HY.out.v2
            go_wp2_with fail
            refine (HNT1.out _).mono ?_
            rintro e9 w9 ⟨rfl, hb⟩
            clear x0 x1 xf xz y0 y1 yf yz
            replace HB := Lib.hid (HB.out.trans (hb.mono HB.out.size))
            replace HX := Lib.hid (HX.out.later hb)
            replace HY := Lib.hid (HY.out.later hb)
            replace HV := Lib.hid (HV.out.later hb)
            replace HSLw := Lib.hid (HSLw.out.later hb)
            clear hb
            have HN := Lib.hid (Box.new w9 #[.int .i64 n1, .int .i64 n2] 34)
            have hba := alloc_below w9 (.cells #[.int .i64 n1, .int .i64 n2] 34)
            replace HB := Lib.hid (HB.out.trans (hba.mono HB.out.size))
            replace HX := Lib.hid (HX.out.later hba)
            replace HY := Lib.hid (HY.out.later hba)
            replace HV := Lib.hid (HV.out.later hba)
            replace HSLw := Lib.hid (HSLw.out.later hba)
            clear hba
            obtain ⟨x0, x1, xf, xz⟩ := HX.out.v2
            obtain ⟨y0, y1, yf, yz⟩ := HY.out.v2
            go_wp2_with fail
            clear x0 x1 xf xz y0 y1 yf yz
            generalize hw10 : w9.alloc (.cells #[.int .i64 n1, .int .i64 n2] 34) = w10 at *
            generalize w9.heap.size = nq at *
            clear hw10
            refine wp_region_joinS 10 (StJ w10 [.agg #[.int .i64 g1, .int .i64 g2], .agg #[.string (txz g1), .string (txz g2)], .agg #[.int .i64 t1, .int .i64 t2], .agg #[.string (txz t1), .string (txz t2)], .tuple #[.agg #[.string (txz (g1 - t2)), .string (txz (g2 - t1))], .int .i64 0], .tuple #[.agg #[.string (txz (g1 - t2)), .string (txz (g2 - t1))], .int .i64 0], .agg #[.string (txz (g1 - t2)), .string (txz (g2 - t1))], .int .i64 0] 39 [.string ⟨#[]⟩, .string ⟨#[]⟩] [.string (txz (g1 - t2)), .string (txz (g2 - t1))] 8 9) (by kernel_rfl) (by kernel_rfl) (StJ.start rfl) ?_ ?_
            · refine ⟨?_, ?_, ?_, ?_, ?_, ?_, ?_, ?_, ?_, ?_, trivial⟩
              all_goals
                intro D vs u hD hdep hJ
                have hu := hJ.later
                simp only [putsN, List.take_succ_cons, List.take_zero, Act.put, List.setIfInBounds_toArray, List.set_cons_succ, List.set_cons_zero]
              · obtain ⟨x0, x1, xf, xz⟩ := (HX.out.later hu).v2
                refine ⟨fun v u' => v = .agg #[.int .i64 g1, .int .i64 g2] ∧ u' = u, ?_, ?_⟩
                · clear hD hdep hJ hu
                  go_wp2_with fail
                  refine ⟨rfl, rfl, .agg #[.int .i64 g1, .int .i64 g2], ?_, rfl, rfl⟩
                  intro t h
                  cases h
                  first | rfl
                · rintro v u' ⟨rfl, rfl⟩
                  exact hJ.quiet 0 (by decide) (by decide) (fun v' h => by injection h) (Below.refl _ _)
              · have e0 : vs 0 = .agg #[.int .i64 g1, .int .i64 g2] := hJ.val 0 _ rfl (hdep 0 (by decide) (by kernel_rfl))
                have HS := Lib.hid (HRGG.out u)
                refine ⟨fun v u' => v = .agg #[.string (txz g1), .string (txz g2)] ∧ Below u.heap.size u u', ?_, ?_⟩
                · clear hD hdep hJ hu
                  go_wp2_with fail
                  refine HS.out.mono ?_
                  rintro e11 w11 ⟨rfl, hb⟩
                  go_wp2_with fail
                  refine ⟨rfl, rfl, .agg #[.string (txz g1), .string (txz g2)], ?_, rfl, hb⟩
                  intro t h
                  cases h
                  first | rfl | exact congrArg some e0
                · rintro v u' ⟨rfl, hb⟩
                  exact hJ.quiet 1 (by decide) (by decide) (fun v' h => by injection h) hb
              · obtain ⟨y0, y1, yf, yz⟩ := (HY.out.later hu).v2
                refine ⟨fun v u' => v = .agg #[.int .i64 t1, .int .i64 t2] ∧ u' = u, ?_, ?_⟩
                · clear hD hdep hJ hu
                  go_wp2_with fail
                  refine ⟨rfl, rfl, .agg #[.int .i64 t1, .int .i64 t2], ?_, rfl, rfl⟩
                  intro t h
                  cases h
                  first | rfl
                · rintro v u' ⟨rfl, rfl⟩
                  exact hJ.quiet 2 (by decide) (by decide) (fun v' h => by injection h) (Below.refl _ _)
              · have e2 : vs 2 = .agg #[.int .i64 t1, .int .i64 t2] := hJ.val 2 _ rfl (hdep 2 (by decide) (by kernel_rfl))
                have HS := Lib.hid (HRTT.out u)
                refine ⟨fun v u' => v = .agg #[.string (txz t1), .string (txz t2)] ∧ Below u.heap.size u u', ?_, ?_⟩
                · clear hD hdep hJ hu
                  go_wp2_with fail
                  refine HS.out.mono ?_
                  rintro e11 w11 ⟨rfl, hb⟩
                  go_wp2_with fail
                  refine ⟨rfl, rfl, .agg #[.string (txz t1), .string (txz t2)], ?_, rfl, hb⟩
                  intro t h
                  cases h
                  first | rfl | exact congrArg some e2
                · rintro v u' ⟨rfl, hb⟩
                  exact hJ.quiet 3 (by decide) (by decide) (fun v' h => by injection h) hb
              · have e1 : vs 1 = .agg #[.string (txz g1), .string (txz g2)] := hJ.val 1 _ rfl (hdep 1 (by decide) (by kernel_rfl))
                have e3 : vs 3 = .agg #[.string (txz t1), .string (txz t2)] := hJ.val 3 _ rfl (hdep 3 (by decide) (by kernel_rfl))
                have HS := Lib.hid (HSUB.out u (HB.out.trans (hu.mono HB.out.size)))
                refine ⟨fun v u' => v = .tuple #[.agg #[.string (txz (g1 - t2)), .string (txz (g2 - t1))], .int .i64 0] ∧ Below u.heap.size u u', ?_, ?_⟩
                · clear hD hdep hJ hu
                  go_wp2_with fail
                  refine HS.out.mono ?_
                  rintro e11 w11 ⟨rfl, hb⟩
                  go_wp2_with fail
                  refine ⟨rfl, rfl, .tuple #[.agg #[.string (txz (g1 - t2)), .string (txz (g2 - t1))], .int .i64 0], ?_, rfl, hb⟩
                  intro t h
                  cases h
                  first | rfl | exact congrArg some e1 | exact congrArg some e3
                · rintro v u' ⟨rfl, hb⟩
                  exact hJ.quiet 4 (by decide) (by decide) (fun v' h => by injection h) hb
              · have e4 : vs 4 = .tuple #[.agg #[.string (txz (g1 - t2)), .string (txz (g2 - t1))], .int .i64 0] := hJ.val 4 _ rfl (hdep 4 (by decide) (by kernel_rfl))
                refine ⟨fun v u' => v = .tuple #[.agg #[.string (txz (g1 - t2)), .string (txz (g2 - t1))], .int .i64 0] ∧ u' = u, ?_, ?_⟩
                · clear hD hdep hJ hu
                  go_wp2_with fail
                  refine ⟨rfl, rfl, .tuple #[.agg #[.string (txz (g1 - t2)), .string (txz (g2 - t1))], .int .i64 0], ?_, rfl, rfl⟩
                  intro t h
                  cases h
                  first | rfl | exact congrArg some e4
                · rintro v u' ⟨rfl, rfl⟩
                  exact hJ.quiet 5 (by decide) (by decide) (fun v' h => by injection h) (Below.refl _ _)
              · have e5 : vs 5 = .tuple #[.agg #[.string (txz (g1 - t2)), .string (txz (g2 - t1))], .int .i64 0] := hJ.val 5 _ rfl (hdep 5 (by decide) (by kernel_rfl))
                refine ⟨fun v u' => v = .agg #[.string (txz (g1 - t2)), .string (txz (g2 - t1))] ∧ u' = u, ?_, ?_⟩
                · clear hD hdep hJ hu
                  go_wp2_with fail
                  refine ⟨rfl, rfl, .agg #[.string (txz (g1 - t2)), .string (txz (g2 - t1))], ?_, rfl, rfl⟩
                  intro t h
                  cases h
                  first | rfl | exact congrArg some e5
                · rintro v u' ⟨rfl, rfl⟩
                  exact hJ.quiet 6 (by decide) (by decide) (fun v' h => by injection h) (Below.refl _ _)
              · have e5 : vs 5 = .tuple #[.agg #[.string (txz (g1 - t2)), .string (txz (g2 - t1))], .int .i64 0] := hJ.val 5 _ rfl (hdep 5 (by decide) (by kernel_rfl))
                refine ⟨fun v u' => v = .int .i64 0 ∧ u' = u, ?_, ?_⟩
                · clear hD hdep hJ hu
                  go_wp2_with fail
                  refine ⟨rfl, rfl, .int .i64 0, ?_, rfl, rfl⟩
                  intro t h
                  cases h
                  first | rfl | exact congrArg some e5
                · rintro v u' ⟨rfl, rfl⟩
                  exact hJ.quiet 7 (by decide) (by decide) (fun v' h => by injection h) (Below.refl _ _)
              · refine ⟨fun v u' => v = .pointer (some ⟨u.heap.size, 0, none⟩) ∧ u' = u.alloc (.cells #[.string ⟨#[]⟩, .string ⟨#[]⟩] 39), ?_, ?_⟩
                · clear hD hdep hJ hu
                  go_wp2_with fail
                  refine ⟨rfl, rfl, .pointer (some ⟨u.heap.size, 0, none⟩), ?_, rfl, rfl⟩
                  intro t h
                  cases h
                  first | rfl
                · rintro v u' ⟨rfl, rfl⟩
                  exact hJ.new (by decide) rfl hD
              · have e6 : vs 6 = .agg #[.string (txz (g1 - t2)), .string (txz (g2 - t1))] := hJ.val 6 _ rfl (hdep 6 (by decide) (by kernel_rfl))
                obtain ⟨h, eh, hlh, hxh⟩ := hJ.box (hdep 8 (by decide) (by kernel_rfl))
                rw [hD] at hxh
                simp only [Bool.false_eq_true, if_false] at hxh
                refine ⟨fun v u' => Below w10.heap.size u u' ∧ Box u' h 39 [.string (txz (g1 - t2)), .string (txz (g2 - t1))], ?_, ?_⟩
                · have HXH := Lib.hid hxh
                  have HLH := Lib.hid hlh
                  obtain ⟨q0, q1, qf, qz⟩ := hxh.v2
                  clear hD hdep hJ hu hlh
                  go_wp2_with fail
                  refine ⟨rfl, rfl, undef, ?_, ?_, ?_⟩
                  · intro t h
                    cases h
                  · exact (((Below.refl _ _).setCell (p := ⟨h, 0, none⟩) HLH.out (.string (txz (g1 - t2)))).setCell (p := ⟨h, 1, none⟩) HLH.out (.string (txz (g2 - t1))))
                  · exact ((HXH.out.set 0 (.string (txz (g1 - t2)))).set 1 (.string (txz (g2 - t1))))
                · rintro v u' ⟨h1, h2⟩
                  exact hJ.put (by decide) rfl (hdep 8 (by decide) (by kernel_rfl)) eh h1 hlh h2
            · intro D vs u hD hJ
              have e7 : vs 7 = .int .i64 0 := hJ.val 7 _ rfl (hD 7 (by decide))
              obtain ⟨hz, e8, hlh, hbh⟩ := hJ.box (hD 8 (by decide))
              rw [hD 9 (by decide)] at hbh
              simp only [if_true] at hbh
              have hu := hJ.later
              simp only [putsN, List.drop_succ_cons, List.drop_zero, List.take_succ_cons, List.take_zero, Act.put, List.setIfInBounds_toArray, List.set_cons_succ, List.set_cons_zero, e7, e8]
              have HE := Lib.hid hbh
              replace HN := Lib.hid (HN.out.later hu)
              replace HB := Lib.hid (HB.out.trans (hu.mono HB.out.size))
              clear hD hJ hu e7 e8 hbh hlh HX HY
              obtain ⟨e0, e1, ef, ez⟩ := HE.out.v2
              go_wp2_with fail
              refine (HCS.out _).mono ?_
              rintro e10 w11 ⟨rfl, hb⟩
              replace HE := Lib.hid (HE.out.later hb)
              replace HN := Lib.hid (HN.out.later hb)
              replace HB := Lib.hid (HB.out.trans (hb.mono HB.out.size))
              clear hb
              clear e0 e1 ef ez
              obtain ⟨e0, e1, ef, ez⟩ := HE.out.v2
              obtain ⟨n0, n1, nf, nz⟩ := HN.out.v2
              go_wp2_with fail
              refine (HSG.out _).mono ?_
              rintro e11 w12 ⟨rfl, rfl⟩
              go_wp2_with fail
              refine (HR.out _ HB.out).mono ?_
              rintro e12 w13 ⟨rfl, hb⟩
              replace HB := Lib.hid (HB.out.trans (hb.mono HB.out.size))
              clear hb
              go_wp2_with fail
              go_ret
              exact ⟨rfl, HB.out⟩
end Go.Proofs.YtflchbejjofppaaGreatDoor.Nu
