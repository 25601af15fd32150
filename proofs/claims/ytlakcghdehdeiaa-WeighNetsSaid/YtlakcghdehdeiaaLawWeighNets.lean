/- The law WeighNets returns true for every input, and leaves its arguments as they were. No conditions. -/
import Derived.Test.YtlakcghdehdeiaaLib13
import Derived.Test.YtlakcghdehdeiaaLib14
set_option linter.unusedVariables false
set_option linter.unusedSimpArgs false

/- The law of nets, plainly. -/
namespace Go.Proofs.Ytlakcghdehdeiaa
open Go Go.Proofs Go.RowKit

theorem nets_1 {g t : Rg} (h : netE g t ≠ 0) : alikeB (netF g t) (netB g t) (netE g t) ⟨0, 0⟩ = true := by
  unfold alikeB netF netB
  simp [h, z]
theorem nets_2 {g t : Rg} (h : netE g t = 0) : alikeB (netF g t) (netB g t) (whenB (!decide (0 ≤ (netR g t).hi)) 15) (netR g t) = true := by
  have e : decide (0 ≤ (netR g t).hi) = !decide (g.hi < t.lo) := by
    rw [Bool.eq_iff_iff]; simp [netR]
  rw [e, Bool.not_not]
  unfold alikeB netF netB whenB
  by_cases h2 : g.hi < t.lo <;> simp [h, h2, z]
theorem nets_3 {l : List Rg} (h : ckMasses l ≠ 0) : alikeB (drR l) (drE l) (ckMasses l) (drR l) = true ∧ alikeB (agR l) (agE l) (ckMasses l) (agR l) = true := by
  unfold alikeB drR drE agR agE
  simp [h]
theorem nets_4 {l : List Rg} (h : ckMasses l = 0) : alikeB (drR l) (drE l) (whenB (decide (999999999 < (dr l).hi)) 4) (dr l) = true ∧ alikeB (agR l) (agE l) (whenB (!decide ((ag l).lo ≤ (ag l).hi)) 15) (ag l) = true := by
  constructor
  · unfold alikeB drR drE whenB
    by_cases h2 : 999999999 < (dr l).hi <;> simp [h, h2, z]
  · have e : decide ((ag l).lo ≤ (ag l).hi) = !decide ((ag l).hi < (ag l).lo) := by
      rw [Bool.eq_iff_iff]; simp
    rw [e, Bool.not_not]
    unfold alikeB agR agE whenB
    by_cases h2 : (ag l).hi < (ag l).lo <;> simp [h, h2, z]
end Go.Proofs.Ytlakcghdehdeiaa

/- The law of nets, its walk. -/
namespace Go.Proofs.Ytlakcghdehdeiaa
open Go Go.Proofs Go.RowKit

set_option maxRecDepth 100000 in
set_option maxHeartbeats 1000000 in
theorem nets14_big (a0 : Option Addr) (n c : Nat) (g t : Rg) (w : World) (hn : n ≤ 9223372036854775807) (hbig : 300 < n) :
    Calls Try.prog 14 #[.agg #[.int .i64 g.lo, .int .i64 g.hi], .agg #[.int .i64 t.lo, .int .i64 t.hi], .slice a0 n c] w (Ret (.bool true) w) := by
  go_enter Try.func14, Try.ntmps14
  go_wp2_with fail
  refine (awake16 _).mono ?_
  rintro e w1 ⟨rfl, hb1⟩
  have HB1 := Lib.hid ((((Below.refl w.heap.size w).alloc (Nat.le_refl _) (.cells #[.int .i64 g.lo, .int .i64 g.hi] 24)).alloc (by simp) (.cells #[.int .i64 t.lo, .int .i64 t.hi] 24)).trans (hb1.mono (by simp; omega)))
  clear hb1
  go_wp2_with fail
  refine (awake16 _).mono ?_
  rintro e w2 ⟨rfl, hb2⟩
  have HB2 := Lib.hid (HB1.out.trans (hb2.mono HB1.out.size))
  clear hb2
  go_wp2_with fail
  go_ret
  exact ⟨rfl, HB2.out⟩

set_option maxRecDepth 100000 in
set_option maxHeartbeats 1000000 in
theorem nets14 (v : Value) (l : List Rg) (g t : Rg) (w : World) (hv : Sl Rg.enc 2 w w.heap.size v l) (hs : l.length ≤ 300) :
    Calls Try.prog 14 #[.agg #[.int .i64 g.lo, .int .i64 g.hi], .agg #[.int .i64 t.lo, .int .i64 t.hi], v] w (Ret (.bool true) w) := by
  have HV := Lib.hid (fun (w1 : World) (hb : Below w.heap.size w w1) => hv.later hb)
  obtain ⟨nF, hnF⟩ : ∃ x : Rg, netF g t = x := ⟨_, rfl⟩
  have EnF := Lib.hid hnF
  obtain ⟨nB, hnB⟩ : ∃ x : Int, netB g t = x := ⟨_, rfl⟩
  have EnB := Lib.hid hnB
  obtain ⟨sF, hsF⟩ : ∃ x : Rg, drR l = x := ⟨_, rfl⟩
  have EsF := Lib.hid hsF
  obtain ⟨sB, hsB⟩ : ∃ x : Int, drE l = x := ⟨_, rfl⟩
  have EsB := Lib.hid hsB
  obtain ⟨aF, haF⟩ : ∃ x : Rg, agR l = x := ⟨_, rfl⟩
  have EaF := Lib.hid haF
  obtain ⟨aB, haB⟩ : ∃ x : Int, agE l = x := ⟨_, rfl⟩
  have EaB := Lib.hid haB
  have C36 := Lib.hid (fun w1 => net36 g t w1)
  rw [hnF, hnB] at C36
  have C52 := Lib.hid (fun (w1 : World) (hb : Below w.heap.size w w1) => drafts52 v l w1 (hv.later hb))
  rw [hsF, hsB] at C52
  have C53 := Lib.hid (fun (w1 : World) (hb : Below w.heap.size w w1) => agree53 v l w1 (hv.later hb))
  rw [haF, haB] at C53
  have C57 := Lib.hid (fun (w1 : World) (hb : Below w.heap.size w w1) => ckMasses57 v l w1 (hv.later hb))
  have C58 := Lib.hid (fun (w1 : World) (hb : Below w.heap.size w w1) h1 h2 => drafts58 v l w1 (hv.later hb) h1 h2)
  have C59 := Lib.hid (fun (w1 : World) (hb : Below w.heap.size w w1) h1 => agree59 v l w1 (hv.later hb) h1)
  obtain ⟨nE, hnE⟩ : ∃ x : Int, netE g t = x := ⟨_, rfl⟩
  obtain ⟨mE, hmE⟩ : ∃ x : Int, ckMasses l = x := ⟨_, rfl⟩
  have L1 := Lib.hid (@nets_1 g t)
  have L2 := Lib.hid (@nets_2 g t)
  have L3 := Lib.hid (@nets_3 l)
  have L4 := Lib.hid (@nets_4 l)
  rw [hnF, hnB, hnE] at L1
  rw [hnF, hnB, hnE] at L2
  rw [hsF, hsB, haF, haB, hmE] at L3
  rw [hsF, hsB, haF, haB, hmE] at L4
  rw [hmE] at C57
  have EnE := Lib.hid hnE
  have EmE := Lib.hid hmE
  clear hnF hnB hsF hsB haF haB hnE hmE
  have hl := hs
  obtain ⟨a0, c0, rfl, hl0, hA⟩ := hv
  clear hA
  go_enter Try.func14, Try.ntmps14
  go_wp2_with fail
  refine (awake16 _).mono ?_
  rintro e w1 ⟨rfl, hb1⟩
  have hxg := (Box.new w #[.int .i64 g.lo, .int .i64 g.hi] 24).alloc (.cells #[.int .i64 t.lo, .int .i64 t.hi] 24)
  have hxt := Box.newAt (w.alloc (.cells #[.int .i64 g.lo, .int .i64 g.hi] 24)) #[.int .i64 t.lo, .int .i64 t.hi] 24 (n := w.heap.size + 1) (by simp)
  have Hg_w1 := Lib.hid (hxg.later hb1)
  have Ht_w1 := Lib.hid (hxt.later hb1)
  have HB_w1 := Lib.hid ((((Below.refl w.heap.size w).alloc (Nat.le_refl _) (.cells #[.int .i64 g.lo, .int .i64 g.hi] 24)).alloc (by simp) (.cells #[.int .i64 t.lo, .int .i64 t.hi] 24)).trans (hb1.mono (by simp; omega)))
  clear hb1 hxg hxt
  obtain ⟨cg0, cg1, cgf, cgz⟩ := Hg_w1.out.v2
  obtain ⟨ct0, ct1, ctf, ctz⟩ := Ht_w1.out.v2
  go_wp2_with fail
  clear cg0 cg1 cgf cgz ct0 ct1 ctf ctz
  refine (C36.out _).mono ?_
  rintro e w2 ⟨rfl, hb⟩
  have HB_w2 := Lib.hid (HB_w1.out.trans (hb.mono HB_w1.out.size))
  have Hg_w2 := Lib.hid (Hg_w1.out.later hb)
  have Ht_w2 := Lib.hid (Ht_w1.out.later hb)
  clear HB_w1 Hg_w1 Ht_w1
  clear hb
  obtain ⟨cg0, cg1, cgf, cgz⟩ := Hg_w2.out.v2
  obtain ⟨ct0, ct1, ctf, ctz⟩ := Ht_w2.out.v2
  go_wp2_with fail
  clear cg0 cg1 cgf cgz ct0 ct1 ctf ctz
  have hnn := Box.new w2 #[.int .i64 nF.lo, .int .i64 nF.hi] 24
  have hbn : Below w2.heap.size w2 (w2.alloc (.cells #[.int .i64 nF.lo, .int .i64 nF.hi] 24)) := (Below.refl _ _).alloc (Nat.le_refl _) _
  have hlng := Hg_w2.out.lt
  have hlnt := Ht_w2.out.lt
  have hln := HB_w2.out.size
  generalize hgn : w2.alloc (.cells #[.int .i64 nF.lo, .int .i64 nF.hi] 24) = w3 at *
  clear hgn
  generalize hsn : w2.heap.size = Pn at hnn hln hlng hlnt ⊢
  have Kgn := Lib.hid hlng
  have Ktn := Lib.hid hlnt
  have Gn := Lib.hid hln
  have Hn_w3 := Lib.hid hnn
  clear hsn hnn hln hlng hlnt
  have HB_w3 := Lib.hid (HB_w2.out.trans (hbn.mono HB_w2.out.size))
  have Hg_w3 := Lib.hid (Hg_w2.out.later hbn)
  have Ht_w3 := Lib.hid (Ht_w2.out.later hbn)
  clear HB_w2 Hg_w2 Ht_w2 hbn
  refine (C52.out _ HB_w3.out).mono ?_
  rintro e w4 ⟨rfl, hb⟩
  have HB_w4 := Lib.hid (HB_w3.out.trans (hb.mono HB_w3.out.size))
  have Hg_w4 := Lib.hid (Hg_w3.out.later hb)
  have Ht_w4 := Lib.hid (Ht_w3.out.later hb)
  have Hn_w4 := Lib.hid (Hn_w3.out.later hb)
  clear HB_w3 Hg_w3 Ht_w3 Hn_w3
  clear hb
  obtain ⟨cg0, cg1, cgf, cgz⟩ := Hg_w4.out.v2
  obtain ⟨ct0, ct1, ctf, ctz⟩ := Ht_w4.out.v2
  obtain ⟨cn0, cn1, cnf, cnz⟩ := Hn_w4.out.v2
  go_wp2_with fail
  clear cg0 cg1 cgf cgz ct0 ct1 ctf ctz cn0 cn1 cnf cnz
  have hns := Box.new w4 #[.int .i64 sF.lo, .int .i64 sF.hi] 24
  have hbs : Below w4.heap.size w4 (w4.alloc (.cells #[.int .i64 sF.lo, .int .i64 sF.hi] 24)) := (Below.refl _ _).alloc (Nat.le_refl _) _
  have hlsg := Hg_w4.out.lt
  have hlst := Ht_w4.out.lt
  have hlsn := Hn_w4.out.lt
  have hls := HB_w4.out.size
  generalize hgs : w4.alloc (.cells #[.int .i64 sF.lo, .int .i64 sF.hi] 24) = w5 at *
  clear hgs
  generalize hss : w4.heap.size = Ps at hns hls hlsg hlst hlsn ⊢
  have Kgs := Lib.hid hlsg
  have Kts := Lib.hid hlst
  have Kns := Lib.hid hlsn
  have Gs := Lib.hid hls
  have Hs_w5 := Lib.hid hns
  clear hss hns hls hlsg hlst hlsn
  have HB_w5 := Lib.hid (HB_w4.out.trans (hbs.mono HB_w4.out.size))
  have Hg_w5 := Lib.hid (Hg_w4.out.later hbs)
  have Ht_w5 := Lib.hid (Ht_w4.out.later hbs)
  have Hn_w5 := Lib.hid (Hn_w4.out.later hbs)
  clear HB_w4 Hg_w4 Ht_w4 Hn_w4 hbs
  refine (C53.out _ HB_w5.out).mono ?_
  rintro e w6 ⟨rfl, hb⟩
  have HB_w6 := Lib.hid (HB_w5.out.trans (hb.mono HB_w5.out.size))
  have Hg_w6 := Lib.hid (Hg_w5.out.later hb)
  have Ht_w6 := Lib.hid (Ht_w5.out.later hb)
  have Hn_w6 := Lib.hid (Hn_w5.out.later hb)
  have Hs_w6 := Lib.hid (Hs_w5.out.later hb)
  clear HB_w5 Hg_w5 Ht_w5 Hn_w5 Hs_w5
  clear hb
  obtain ⟨cg0, cg1, cgf, cgz⟩ := Hg_w6.out.v2
  obtain ⟨ct0, ct1, ctf, ctz⟩ := Ht_w6.out.v2
  obtain ⟨cn0, cn1, cnf, cnz⟩ := Hn_w6.out.v2
  obtain ⟨cs0, cs1, csf, csz⟩ := Hs_w6.out.v2
  go_wp2_with fail
  clear cg0 cg1 cgf cgz ct0 ct1 ctf ctz cn0 cn1 cnf cnz cs0 cs1 csf csz
  have hna := Box.new w6 #[.int .i64 aF.lo, .int .i64 aF.hi] 24
  have hba : Below w6.heap.size w6 (w6.alloc (.cells #[.int .i64 aF.lo, .int .i64 aF.hi] 24)) := (Below.refl _ _).alloc (Nat.le_refl _) _
  have hlag := Hg_w6.out.lt
  have hlat := Ht_w6.out.lt
  have hlan := Hn_w6.out.lt
  have hlas := Hs_w6.out.lt
  have hla := HB_w6.out.size
  generalize hga : w6.alloc (.cells #[.int .i64 aF.lo, .int .i64 aF.hi] 24) = w7 at *
  clear hga
  generalize hsa : w6.heap.size = Pa at hna hla hlag hlat hlan hlas ⊢
  have Kga := Lib.hid hlag
  have Kta := Lib.hid hlat
  have Kna := Lib.hid hlan
  have Ksa := Lib.hid hlas
  have Ga := Lib.hid hla
  have Ha_w7 := Lib.hid hna
  clear hsa hna hla hlag hlat hlan hlas
  have HB_w7 := Lib.hid (HB_w6.out.trans (hba.mono HB_w6.out.size))
  have Hg_w7 := Lib.hid (Hg_w6.out.later hba)
  have Ht_w7 := Lib.hid (Ht_w6.out.later hba)
  have Hn_w7 := Lib.hid (Hn_w6.out.later hba)
  have Hs_w7 := Lib.hid (Hs_w6.out.later hba)
  clear HB_w6 Hg_w6 Ht_w6 Hn_w6 Hs_w6 hba
  obtain ⟨cg0, cg1, cgf, cgz⟩ := Hg_w7.out.v2
  obtain ⟨ct0, ct1, ctf, ctz⟩ := Ht_w7.out.v2
  obtain ⟨cn0, cn1, cnf, cnz⟩ := Hn_w7.out.v2
  obtain ⟨cs0, cs1, csf, csz⟩ := Hs_w7.out.v2
  obtain ⟨ca0, ca1, caf, caz⟩ := Ha_w7.out.v2
  refine wp_region_later (by kernel_rfl) (by kernel_rfl) ?_
  repeat go_big_quiet_step ((first | (go_at_call 54; exact Calls.later (ckRange54 ⟨_, _⟩ _)) | (go_at_call 20; exact Calls.later (ckRange20 ⟨_, _⟩ _))))
  refine wpQuiet_nil ?_
  rintro w8 ⟨⟨_, hb⟩, rfl⟩
  clear cg0 cg1 cgf cgz ct0 ct1 ctf ctz cn0 cn1 cnf cnz cs0 cs1 csf csz ca0 ca1 caf caz
  have HB_w8 := Lib.hid (HB_w7.out.trans (hb.mono HB_w7.out.size))
  have Hg_w8 := Lib.hid (Hg_w7.out.later hb)
  have Ht_w8 := Lib.hid (Ht_w7.out.later hb)
  have Hn_w8 := Lib.hid (Hn_w7.out.later hb)
  have Hs_w8 := Lib.hid (Hs_w7.out.later hb)
  have Ha_w8 := Lib.hid (Ha_w7.out.later hb)
  clear HB_w7 Hg_w7 Ht_w7 Hn_w7 Hs_w7 Ha_w7
  clear hb
  obtain ⟨cg0, cg1, cgf, cgz⟩ := Hg_w8.out.v2
  obtain ⟨ct0, ct1, ctf, ctz⟩ := Ht_w8.out.v2
  obtain ⟨cn0, cn1, cnf, cnz⟩ := Hn_w8.out.v2
  obtain ⟨cs0, cs1, csf, csz⟩ := Hs_w8.out.v2
  obtain ⟨ca0, ca1, caf, caz⟩ := Ha_w8.out.v2
  go_wp2_with fail
  refine wp_region_head_later 4 (by kernel_rfl) (by kernel_rfl) ?_
  simp only [List.take_succ_cons, List.take_zero, List.drop_succ_cons, List.drop_zero]
  repeat go_big_quiet_step ((go_at_call 55; exact Calls.later (ckMass55 ⟨_, _⟩ _)))
  refine wpQuiet_nil ?_
  rintro w9 ⟨⟨_, hb⟩, rfl⟩
  clear cg0 cg1 cgf cgz ct0 ct1 ctf ctz cn0 cn1 cnf cnz cs0 cs1 csf csz ca0 ca1 caf caz
  have HB_w9 := Lib.hid (HB_w8.out.trans (hb.mono HB_w8.out.size))
  have Hg_w9 := Lib.hid (Hg_w8.out.later hb)
  have Ht_w9 := Lib.hid (Ht_w8.out.later hb)
  have Hn_w9 := Lib.hid (Hn_w8.out.later hb)
  have Hs_w9 := Lib.hid (Hs_w8.out.later hb)
  have Ha_w9 := Lib.hid (Ha_w8.out.later hb)
  clear HB_w8 Hg_w8 Ht_w8 Hn_w8 Hs_w8 Ha_w8
  clear hb
  have hba : Below w9.heap.size w9 (w9.alloc (.cells #[.int .i64 (ckMass g), .int .i64 (ckMass t)] 3)) := (Below.refl _ _).alloc (Nat.le_refl _) _
  have hfirst := first18 (.slice (some ⟨w9.heap.size, 0, none⟩) 2 2) [ckMass g, ckMass t] _ (Sl.lit encI_len _ w9 #[.int .i64 (ckMass g), .int .i64 (ckMass t)] 3 2 rfl rfl (by simp))
  rw [show firstNZ [ckMass g, ckMass t] = nE from EnE.out] at hfirst
  have HF := Lib.hid hfirst
  clear hfirst
  have HB_w10 := Lib.hid (HB_w9.out.trans (hba.mono HB_w9.out.size))
  have Hg_w10 := Lib.hid (Hg_w9.out.later hba)
  have Ht_w10 := Lib.hid (Ht_w9.out.later hba)
  have Hn_w10 := Lib.hid (Hn_w9.out.later hba)
  have Hs_w10 := Lib.hid (Hs_w9.out.later hba)
  have Ha_w10 := Lib.hid (Ha_w9.out.later hba)
  clear hba HB_w9 Hg_w9 Ht_w9 Hn_w9 Hs_w9 Ha_w9
  go_wp2_with fail
  generalize w9.alloc (.cells #[.int .i64 (ckMass g), .int .i64 (ckMass t)] 3) = w10 at *
  obtain ⟨cg0, cg1, cgf, cgz⟩ := Hg_w10.out.v2
  obtain ⟨ct0, ct1, ctf, ctz⟩ := Ht_w10.out.v2
  obtain ⟨cn0, cn1, cnf, cnz⟩ := Hn_w10.out.v2
  obtain ⟨cs0, cs1, csf, csz⟩ := Hs_w10.out.v2
  obtain ⟨ca0, ca1, caf, caz⟩ := Ha_w10.out.v2
  by_cases hn0 : nE = 0
  · have hm1 := firstNZ_2.1 (EnE.out.trans hn0)
    have hg1 := ckMass_0 hm1.1
    have ht1 := ckMass_0 hm1.2
    have l2 := L2.out hn0
    have C56 := Lib.hid (fun w1 => net56 g t w1 ⟨hg1.1, hg1.2.2, hg1.2.1⟩ ⟨ht1.1, ht1.2.2, ht1.2.1⟩)
    obtain ⟨nR, hnR⟩ : ∃ x : Rg, netR g t = x := ⟨_, rfl⟩
    have A33 := Lib.hid (fun w1 => alike33 nF (netR g t) nB (whenB (!decide (0 ≤ (netR g t).hi)) 15) w1)
    rw [l2] at A33
    rw [hnR] at A33
    rw [hnR] at C56
    clear hnR hm1 hg1 ht1 l2
    subst hn0
    refine HF.out.mono ?_
    rintro e w' ⟨rfl, rfl⟩
    go_wp2_with fail
    clear cg0 cg1 cgf cgz ct0 ct1 ctf ctz cn0 cn1 cnf cnz cs0 cs1 csf csz ca0 ca1 caf caz
    have hnw := Box.new w10 #[.int .i64 0, .int .i64 0] 24
    have hbw : Below w10.heap.size w10 (w10.alloc (.cells #[.int .i64 0, .int .i64 0] 24)) := (Below.refl _ _).alloc (Nat.le_refl _) _
    have hlwg := Hg_w10.out.lt
    have hlwt := Ht_w10.out.lt
    have hlwn := Hn_w10.out.lt
    have hlws := Hs_w10.out.lt
    have hlwa := Ha_w10.out.lt
    have hlw := HB_w10.out.size
    generalize hgw : w10.alloc (.cells #[.int .i64 0, .int .i64 0] 24) = w11 at *
    clear hgw
    generalize hsw : w10.heap.size = Pw at hnw hlw hlwg hlwt hlwn hlws hlwa ⊢
    have Kgw := Lib.hid hlwg
    have Ktw := Lib.hid hlwt
    have Knw := Lib.hid hlwn
    have Ksw := Lib.hid hlws
    have Kaw := Lib.hid hlwa
    have Gw := Lib.hid hlw
    have Hw_w11 := Lib.hid hnw
    clear hsw hnw hlw hlwg hlwt hlwn hlws hlwa
    have HB_w11 := Lib.hid (HB_w10.out.trans (hbw.mono HB_w10.out.size))
    have Hg_w11 := Lib.hid (Hg_w10.out.later hbw)
    have Ht_w11 := Lib.hid (Ht_w10.out.later hbw)
    have Hn_w11 := Lib.hid (Hn_w10.out.later hbw)
    have Hs_w11 := Lib.hid (Hs_w10.out.later hbw)
    have Ha_w11 := Lib.hid (Ha_w10.out.later hbw)
    clear HB_w10 Hg_w10 Ht_w10 Hn_w10 Hs_w10 Ha_w10 hbw
    refine (C56.out _).mono ?_
    rintro e w12 ⟨rfl, hb⟩
    have HB_w12 := Lib.hid (HB_w11.out.trans (hb.mono HB_w11.out.size))
    have Hg_w12 := Lib.hid (Hg_w11.out.later hb)
    have Ht_w12 := Lib.hid (Ht_w11.out.later hb)
    have Hn_w12 := Lib.hid (Hn_w11.out.later hb)
    have Hs_w12 := Lib.hid (Hs_w11.out.later hb)
    have Ha_w12 := Lib.hid (Ha_w11.out.later hb)
    have Hw_w12 := Lib.hid (Hw_w11.out.later hb)
    clear HB_w11 Hg_w11 Ht_w11 Hn_w11 Hs_w11 Ha_w11 Hw_w11
    clear hb
    obtain ⟨cg0, cg1, cgf, cgz⟩ := Hg_w12.out.v2
    obtain ⟨ct0, ct1, ctf, ctz⟩ := Ht_w12.out.v2
    obtain ⟨cn0, cn1, cnf, cnz⟩ := Hn_w12.out.v2
    obtain ⟨cs0, cs1, csf, csz⟩ := Hs_w12.out.v2
    obtain ⟨ca0, ca1, caf, caz⟩ := Ha_w12.out.v2
    obtain ⟨cw0, cw1, cwf, cwz⟩ := Hw_w12.out.v2
    go_wp2_with fail
    clear cg0 cg1 cgf cgz ct0 ct1 ctf ctz cn0 cn1 cnf cnz cs0 cs1 csf csz ca0 ca1 caf caz cw0 cw1 cwf cwz
    have hB_w13 : Below w.heap.size w ((w12.setCell ⟨Pw, 0, none⟩ (.int .i64 nR.lo)).setCell ⟨Pw, 1, none⟩ (.int .i64 nR.hi)) := (HB_w12.out.setCell Gw.out _).setCell Gw.out _
    have hbg_w13 := (Hg_w12.out.other (a := ⟨Pw, 0, none⟩) (.int .i64 nR.lo) (by exact (Nat.ne_of_lt Kgw.out).symm)).other (a := ⟨Pw, 1, none⟩) (.int .i64 nR.hi) (by exact (Nat.ne_of_lt Kgw.out).symm)
    have hbt_w13 := (Ht_w12.out.other (a := ⟨Pw, 0, none⟩) (.int .i64 nR.lo) (by exact (Nat.ne_of_lt Ktw.out).symm)).other (a := ⟨Pw, 1, none⟩) (.int .i64 nR.hi) (by exact (Nat.ne_of_lt Ktw.out).symm)
    have hbn_w13 := (Hn_w12.out.other (a := ⟨Pw, 0, none⟩) (.int .i64 nR.lo) (by exact (Nat.ne_of_lt Knw.out).symm)).other (a := ⟨Pw, 1, none⟩) (.int .i64 nR.hi) (by exact (Nat.ne_of_lt Knw.out).symm)
    have hbs_w13 := (Hs_w12.out.other (a := ⟨Pw, 0, none⟩) (.int .i64 nR.lo) (by exact (Nat.ne_of_lt Ksw.out).symm)).other (a := ⟨Pw, 1, none⟩) (.int .i64 nR.hi) (by exact (Nat.ne_of_lt Ksw.out).symm)
    have hba_w13 := (Ha_w12.out.other (a := ⟨Pw, 0, none⟩) (.int .i64 nR.lo) (by exact (Nat.ne_of_lt Kaw.out).symm)).other (a := ⟨Pw, 1, none⟩) (.int .i64 nR.hi) (by exact (Nat.ne_of_lt Kaw.out).symm)
    have hbw_w13 : Box ((w12.setCell ⟨Pw, 0, none⟩ (.int .i64 nR.lo)).setCell ⟨Pw, 1, none⟩ (.int .i64 nR.hi)) Pw 24 [.int .i64 nR.lo, .int .i64 nR.hi] := (Hw_w12.out.set 0 _).set 1 _
    generalize ((w12.setCell ⟨Pw, 0, none⟩ (.int .i64 nR.lo)).setCell ⟨Pw, 1, none⟩ (.int .i64 nR.hi)) = w13 at *
    have HB_w13 := Lib.hid hB_w13
    have Hg_w13 := Lib.hid hbg_w13
    have Ht_w13 := Lib.hid hbt_w13
    have Hn_w13 := Lib.hid hbn_w13
    have Hs_w13 := Lib.hid hbs_w13
    have Ha_w13 := Lib.hid hba_w13
    have Hw_w13 := Lib.hid hbw_w13
    clear HB_w12 Hg_w12 Ht_w12 Hn_w12 Hs_w12 Ha_w12 Hw_w12 hB_w13 hbg_w13 hbt_w13 hbn_w13 hbs_w13 hba_w13 hbw_w13
    obtain ⟨cg0, cg1, cgf, cgz⟩ := Hg_w13.out.v2
    obtain ⟨ct0, ct1, ctf, ctz⟩ := Ht_w13.out.v2
    obtain ⟨cn0, cn1, cnf, cnz⟩ := Hn_w13.out.v2
    obtain ⟨cs0, cs1, csf, csz⟩ := Hs_w13.out.v2
    obtain ⟨ca0, ca1, caf, caz⟩ := Ha_w13.out.v2
    obtain ⟨cw0, cw1, cwf, cwz⟩ := Hw_w13.out.v2
    refine (when27 _ _ _).mono ?_
    rintro e w' ⟨rfl, rfl⟩
    go_wp2_with fail
    clear cg0 cg1 cgf cgz ct0 ct1 ctf ctz cn0 cn1 cnf cnz cs0 cs1 csf csz ca0 ca1 caf caz cw0 cw1 cwf cwz
    refine (A33.out _).mono ?_
    rintro e w14 ⟨rfl, hb⟩
    have HB_w14 := Lib.hid (HB_w13.out.trans (hb.mono HB_w13.out.size))
    have Hg_w14 := Lib.hid (Hg_w13.out.later hb)
    have Ht_w14 := Lib.hid (Ht_w13.out.later hb)
    have Hn_w14 := Lib.hid (Hn_w13.out.later hb)
    have Hs_w14 := Lib.hid (Hs_w13.out.later hb)
    have Ha_w14 := Lib.hid (Ha_w13.out.later hb)
    have Hw_w14 := Lib.hid (Hw_w13.out.later hb)
    clear HB_w13 Hg_w13 Ht_w13 Hn_w13 Hs_w13 Ha_w13 Hw_w13
    clear hb
    obtain ⟨cg0, cg1, cgf, cgz⟩ := Hg_w14.out.v2
    obtain ⟨ct0, ct1, ctf, ctz⟩ := Ht_w14.out.v2
    obtain ⟨cn0, cn1, cnf, cnz⟩ := Hn_w14.out.v2
    obtain ⟨cs0, cs1, csf, csz⟩ := Hs_w14.out.v2
    obtain ⟨ca0, ca1, caf, caz⟩ := Ha_w14.out.v2
    obtain ⟨cw0, cw1, cwf, cwz⟩ := Hw_w14.out.v2
    go_wp2_with fail
    clear cg0 cg1 cgf cgz ct0 ct1 ctf ctz cn0 cn1 cnf cnz cs0 cs1 csf csz ca0 ca1 caf caz cw0 cw1 cwf cwz
    refine (C57.out _ HB_w14.out).mono ?_
    rintro e w20 ⟨rfl, hb⟩
    have HB_w20 := Lib.hid (HB_w14.out.trans (hb.mono HB_w14.out.size))
    have Hg_w20 := Lib.hid (Hg_w14.out.later hb)
    have Ht_w20 := Lib.hid (Ht_w14.out.later hb)
    have Hn_w20 := Lib.hid (Hn_w14.out.later hb)
    have Hs_w20 := Lib.hid (Hs_w14.out.later hb)
    have Ha_w20 := Lib.hid (Ha_w14.out.later hb)
    have Hw_w20 := Lib.hid (Hw_w14.out.later hb)
    clear HB_w14 Hg_w14 Ht_w14 Hn_w14 Hs_w14 Ha_w14 Hw_w14
    clear hb
    obtain ⟨cg0, cg1, cgf, cgz⟩ := Hg_w20.out.v2
    obtain ⟨ct0, ct1, ctf, ctz⟩ := Ht_w20.out.v2
    obtain ⟨cn0, cn1, cnf, cnz⟩ := Hn_w20.out.v2
    obtain ⟨cs0, cs1, csf, csz⟩ := Hs_w20.out.v2
    obtain ⟨ca0, ca1, caf, caz⟩ := Ha_w20.out.v2
    obtain ⟨cw0, cw1, cwf, cwz⟩ := Hw_w20.out.v2
    by_cases hm0 : mE = 0
    · have hm1 := ckMasses_0 (EmE.out.trans hm0)
      obtain ⟨l4, l5⟩ := L4.out hm0
      have A33 := Lib.hid (fun w1 => alike33 sF (dr l) sB (whenB (decide (999999999 < (dr l).hi)) 4) w1)
      have A34 := Lib.hid (fun w1 => alike33 aF (ag l) aB (whenB (!decide ((ag l).lo ≤ (ag l).hi)) 15) w1)
      rw [l4] at A33
      rw [l5] at A34
      have C58b := Lib.hid (fun w1 hb => C58.out w1 hb (by omega) hm1.2.2)
      have C59b := Lib.hid (fun w1 hb => C59.out w1 hb hm1.1)
      have hdb := dr_bd l hm1.2.2
      have hlb : (l.length : Int) ≤ 300 := by omega
      obtain ⟨dR, hdR⟩ : ∃ x : Rg, dr l = x := ⟨_, rfl⟩
      obtain ⟨gR, hgR⟩ : ∃ x : Rg, ag l = x := ⟨_, rfl⟩
      rw [hdR] at C58b A33 hdb
      rw [hgR] at C59b A34
      have hd0 : 0 ≤ dR.hi ∧ dR.hi ≤ 300000000000 := by omega
      clear hdR hgR l4 l5 hm1 hdb
      subst hm0
      go_wp2_with fail
      clear cg0 cg1 cgf cgz ct0 ct1 ctf ctz cn0 cn1 cnf cnz cs0 cs1 csf csz ca0 ca1 caf caz cw0 cw1 cwf cwz
      refine (C58b.out _ HB_w20.out).mono ?_
      rintro e w21 ⟨rfl, hb⟩
      have HB_w21 := Lib.hid (HB_w20.out.trans (hb.mono HB_w20.out.size))
      have Hg_w21 := Lib.hid (Hg_w20.out.later hb)
      have Ht_w21 := Lib.hid (Ht_w20.out.later hb)
      have Hn_w21 := Lib.hid (Hn_w20.out.later hb)
      have Hs_w21 := Lib.hid (Hs_w20.out.later hb)
      have Ha_w21 := Lib.hid (Ha_w20.out.later hb)
      have Hw_w21 := Lib.hid (Hw_w20.out.later hb)
      clear HB_w20 Hg_w20 Ht_w20 Hn_w20 Hs_w20 Ha_w20 Hw_w20
      clear hb
      obtain ⟨cg0, cg1, cgf, cgz⟩ := Hg_w21.out.v2
      obtain ⟨ct0, ct1, ctf, ctz⟩ := Ht_w21.out.v2
      obtain ⟨cn0, cn1, cnf, cnz⟩ := Hn_w21.out.v2
      obtain ⟨cs0, cs1, csf, csz⟩ := Hs_w21.out.v2
      obtain ⟨ca0, ca1, caf, caz⟩ := Ha_w21.out.v2
      obtain ⟨cw0, cw1, cwf, cwz⟩ := Hw_w21.out.v2
      go_wp2_with fail
      clear cg0 cg1 cgf cgz ct0 ct1 ctf ctz cn0 cn1 cnf cnz cs0 cs1 csf csz ca0 ca1 caf caz cw0 cw1 cwf cwz
      have hB_w22 : Below w.heap.size w ((w21.setCell ⟨Pw, 0, none⟩ (.int .i64 dR.lo)).setCell ⟨Pw, 1, none⟩ (.int .i64 dR.hi)) := (HB_w21.out.setCell Gw.out _).setCell Gw.out _
      have hbg_w22 := (Hg_w21.out.other (a := ⟨Pw, 0, none⟩) (.int .i64 dR.lo) (by exact (Nat.ne_of_lt Kgw.out).symm)).other (a := ⟨Pw, 1, none⟩) (.int .i64 dR.hi) (by exact (Nat.ne_of_lt Kgw.out).symm)
      have hbt_w22 := (Ht_w21.out.other (a := ⟨Pw, 0, none⟩) (.int .i64 dR.lo) (by exact (Nat.ne_of_lt Ktw.out).symm)).other (a := ⟨Pw, 1, none⟩) (.int .i64 dR.hi) (by exact (Nat.ne_of_lt Ktw.out).symm)
      have hbn_w22 := (Hn_w21.out.other (a := ⟨Pw, 0, none⟩) (.int .i64 dR.lo) (by exact (Nat.ne_of_lt Knw.out).symm)).other (a := ⟨Pw, 1, none⟩) (.int .i64 dR.hi) (by exact (Nat.ne_of_lt Knw.out).symm)
      have hbs_w22 := (Hs_w21.out.other (a := ⟨Pw, 0, none⟩) (.int .i64 dR.lo) (by exact (Nat.ne_of_lt Ksw.out).symm)).other (a := ⟨Pw, 1, none⟩) (.int .i64 dR.hi) (by exact (Nat.ne_of_lt Ksw.out).symm)
      have hba_w22 := (Ha_w21.out.other (a := ⟨Pw, 0, none⟩) (.int .i64 dR.lo) (by exact (Nat.ne_of_lt Kaw.out).symm)).other (a := ⟨Pw, 1, none⟩) (.int .i64 dR.hi) (by exact (Nat.ne_of_lt Kaw.out).symm)
      have hbw_w22 : Box ((w21.setCell ⟨Pw, 0, none⟩ (.int .i64 dR.lo)).setCell ⟨Pw, 1, none⟩ (.int .i64 dR.hi)) Pw 24 [.int .i64 dR.lo, .int .i64 dR.hi] := (Hw_w21.out.set 0 _).set 1 _
      generalize ((w21.setCell ⟨Pw, 0, none⟩ (.int .i64 dR.lo)).setCell ⟨Pw, 1, none⟩ (.int .i64 dR.hi)) = w22 at *
      have HB_w22 := Lib.hid hB_w22
      have Hg_w22 := Lib.hid hbg_w22
      have Ht_w22 := Lib.hid hbt_w22
      have Hn_w22 := Lib.hid hbn_w22
      have Hs_w22 := Lib.hid hbs_w22
      have Ha_w22 := Lib.hid hba_w22
      have Hw_w22 := Lib.hid hbw_w22
      clear HB_w21 Hg_w21 Ht_w21 Hn_w21 Hs_w21 Ha_w21 Hw_w21 hB_w22 hbg_w22 hbt_w22 hbn_w22 hbs_w22 hba_w22 hbw_w22
      obtain ⟨cg0, cg1, cgf, cgz⟩ := Hg_w22.out.v2
      obtain ⟨ct0, ct1, ctf, ctz⟩ := Ht_w22.out.v2
      obtain ⟨cn0, cn1, cnf, cnz⟩ := Hn_w22.out.v2
      obtain ⟨cs0, cs1, csf, csz⟩ := Hs_w22.out.v2
      obtain ⟨ca0, ca1, caf, caz⟩ := Ha_w22.out.v2
      obtain ⟨cw0, cw1, cwf, cwz⟩ := Hw_w22.out.v2
      obtain ⟨hd0a, hd0b⟩ := hd0
      refine wp_region_later (by kernel_rfl) (by kernel_rfl) ?_
      repeat go_big_quiet_step ((first | (go_at_call 27; exact Calls.later_same (when27 _ _ _)) | (go_at_call 33; exact Calls.later (A33.out _))))
      refine wpQuiet_nil ?_
      rintro w23 ⟨⟨_, hb⟩, rfl⟩
      clear cg0 cg1 cgf cgz ct0 ct1 ctf ctz cn0 cn1 cnf cnz cs0 cs1 csf csz ca0 ca1 caf caz cw0 cw1 cwf cwz
      have HB_w23 := Lib.hid (HB_w22.out.trans (hb.mono HB_w22.out.size))
      have Hg_w23 := Lib.hid (Hg_w22.out.later hb)
      have Ht_w23 := Lib.hid (Ht_w22.out.later hb)
      have Hn_w23 := Lib.hid (Hn_w22.out.later hb)
      have Hs_w23 := Lib.hid (Hs_w22.out.later hb)
      have Ha_w23 := Lib.hid (Ha_w22.out.later hb)
      have Hw_w23 := Lib.hid (Hw_w22.out.later hb)
      clear HB_w22 Hg_w22 Ht_w22 Hn_w22 Hs_w22 Ha_w22 Hw_w22
      clear hb
      obtain ⟨cg0, cg1, cgf, cgz⟩ := Hg_w23.out.v2
      obtain ⟨ct0, ct1, ctf, ctz⟩ := Ht_w23.out.v2
      obtain ⟨cn0, cn1, cnf, cnz⟩ := Hn_w23.out.v2
      obtain ⟨cs0, cs1, csf, csz⟩ := Hs_w23.out.v2
      obtain ⟨ca0, ca1, caf, caz⟩ := Ha_w23.out.v2
      obtain ⟨cw0, cw1, cwf, cwz⟩ := Hw_w23.out.v2
      go_wp2_with fail
      clear cg0 cg1 cgf cgz ct0 ct1 ctf ctz cn0 cn1 cnf cnz cs0 cs1 csf csz ca0 ca1 caf caz cw0 cw1 cwf cwz
      refine (C59b.out _ HB_w23.out).mono ?_
      rintro e w24 ⟨rfl, hb⟩
      have HB_w24 := Lib.hid (HB_w23.out.trans (hb.mono HB_w23.out.size))
      have Hg_w24 := Lib.hid (Hg_w23.out.later hb)
      have Ht_w24 := Lib.hid (Ht_w23.out.later hb)
      have Hn_w24 := Lib.hid (Hn_w23.out.later hb)
      have Hs_w24 := Lib.hid (Hs_w23.out.later hb)
      have Ha_w24 := Lib.hid (Ha_w23.out.later hb)
      have Hw_w24 := Lib.hid (Hw_w23.out.later hb)
      clear HB_w23 Hg_w23 Ht_w23 Hn_w23 Hs_w23 Ha_w23 Hw_w23
      clear hb
      obtain ⟨cg0, cg1, cgf, cgz⟩ := Hg_w24.out.v2
      obtain ⟨ct0, ct1, ctf, ctz⟩ := Ht_w24.out.v2
      obtain ⟨cn0, cn1, cnf, cnz⟩ := Hn_w24.out.v2
      obtain ⟨cs0, cs1, csf, csz⟩ := Hs_w24.out.v2
      obtain ⟨ca0, ca1, caf, caz⟩ := Ha_w24.out.v2
      obtain ⟨cw0, cw1, cwf, cwz⟩ := Hw_w24.out.v2
      go_wp2_with fail
      clear cg0 cg1 cgf cgz ct0 ct1 ctf ctz cn0 cn1 cnf cnz cs0 cs1 csf csz ca0 ca1 caf caz cw0 cw1 cwf cwz
      have hnb := Box.new w24 #[.int .i64 gR.lo, .int .i64 gR.hi] 24
      have hbb : Below w24.heap.size w24 (w24.alloc (.cells #[.int .i64 gR.lo, .int .i64 gR.hi] 24)) := (Below.refl _ _).alloc (Nat.le_refl _) _
      have hlbg := Hg_w24.out.lt
      have hlbt := Ht_w24.out.lt
      have hlbn := Hn_w24.out.lt
      have hlbs := Hs_w24.out.lt
      have hlba := Ha_w24.out.lt
      have hlbw := Hw_w24.out.lt
      have hlb := HB_w24.out.size
      generalize hgb : w24.alloc (.cells #[.int .i64 gR.lo, .int .i64 gR.hi] 24) = w25 at *
      clear hgb
      generalize hsb : w24.heap.size = Pb at hnb hlb hlbg hlbt hlbn hlbs hlba hlbw ⊢
      have Kgb := Lib.hid hlbg
      have Ktb := Lib.hid hlbt
      have Knb := Lib.hid hlbn
      have Ksb := Lib.hid hlbs
      have Kab := Lib.hid hlba
      have Kwb := Lib.hid hlbw
      have Gb := Lib.hid hlb
      have Hb_w25 := Lib.hid hnb
      clear hsb hnb hlb hlbg hlbt hlbn hlbs hlba hlbw
      have HB_w25 := Lib.hid (HB_w24.out.trans (hbb.mono HB_w24.out.size))
      have Hg_w25 := Lib.hid (Hg_w24.out.later hbb)
      have Ht_w25 := Lib.hid (Ht_w24.out.later hbb)
      have Hn_w25 := Lib.hid (Hn_w24.out.later hbb)
      have Hs_w25 := Lib.hid (Hs_w24.out.later hbb)
      have Ha_w25 := Lib.hid (Ha_w24.out.later hbb)
      have Hw_w25 := Lib.hid (Hw_w24.out.later hbb)
      clear HB_w24 Hg_w24 Ht_w24 Hn_w24 Hs_w24 Ha_w24 Hw_w24 hbb
      obtain ⟨cg0, cg1, cgf, cgz⟩ := Hg_w25.out.v2
      obtain ⟨ct0, ct1, ctf, ctz⟩ := Ht_w25.out.v2
      obtain ⟨cn0, cn1, cnf, cnz⟩ := Hn_w25.out.v2
      obtain ⟨cs0, cs1, csf, csz⟩ := Hs_w25.out.v2
      obtain ⟨ca0, ca1, caf, caz⟩ := Ha_w25.out.v2
      obtain ⟨cw0, cw1, cwf, cwz⟩ := Hw_w25.out.v2
      obtain ⟨cb0, cb1, cbf, cbz⟩ := Hb_w25.out.v2
      refine wp_region_later (by kernel_rfl) (by kernel_rfl) ?_
      repeat go_big_quiet_step ((first | (go_at_call 27; exact Calls.later_same (when27 _ _ _)) | (go_at_call 33; exact Calls.later (A34.out _))))
      refine wpQuiet_nil ?_
      rintro w26 ⟨⟨_, hb⟩, rfl⟩
      clear cg0 cg1 cgf cgz ct0 ct1 ctf ctz cn0 cn1 cnf cnz cs0 cs1 csf csz ca0 ca1 caf caz cw0 cw1 cwf cwz cb0 cb1 cbf cbz
      have HB_w26 := Lib.hid (HB_w25.out.trans (hb.mono HB_w25.out.size))
      have Hg_w26 := Lib.hid (Hg_w25.out.later hb)
      have Ht_w26 := Lib.hid (Ht_w25.out.later hb)
      have Hn_w26 := Lib.hid (Hn_w25.out.later hb)
      have Hs_w26 := Lib.hid (Hs_w25.out.later hb)
      have Ha_w26 := Lib.hid (Ha_w25.out.later hb)
      have Hw_w26 := Lib.hid (Hw_w25.out.later hb)
      have Hb_w26 := Lib.hid (Hb_w25.out.later hb)
      clear HB_w25 Hg_w25 Ht_w25 Hn_w25 Hs_w25 Ha_w25 Hw_w25 Hb_w25
      clear hb
      go_wp2_with fail
      go_ret
      exact ⟨rfl, HB_w26.out⟩
    · obtain ⟨l4, l5⟩ := L3.out hm0
      have A33 := Lib.hid (fun w1 => alike33 sF sF sB mE w1)
      have A34 := Lib.hid (fun w1 => alike33 aF aF aB mE w1)
      rw [l4] at A33
      rw [l5] at A34
      clear l4 l5
      have hne : (mE == 0) = false := by simp [hm0]
      go_wp2_with fail
      clear cg0 cg1 cgf cgz ct0 ct1 ctf ctz cn0 cn1 cnf cnz cs0 cs1 csf csz ca0 ca1 caf caz cw0 cw1 cwf cwz
      refine (A33.out _).mono ?_
      rintro e w21 ⟨rfl, hb⟩
      have HB_w21 := Lib.hid (HB_w20.out.trans (hb.mono HB_w20.out.size))
      have Hg_w21 := Lib.hid (Hg_w20.out.later hb)
      have Ht_w21 := Lib.hid (Ht_w20.out.later hb)
      have Hn_w21 := Lib.hid (Hn_w20.out.later hb)
      have Hs_w21 := Lib.hid (Hs_w20.out.later hb)
      have Ha_w21 := Lib.hid (Ha_w20.out.later hb)
      have Hw_w21 := Lib.hid (Hw_w20.out.later hb)
      clear HB_w20 Hg_w20 Ht_w20 Hn_w20 Hs_w20 Ha_w20 Hw_w20
      clear hb
      obtain ⟨cg0, cg1, cgf, cgz⟩ := Hg_w21.out.v2
      obtain ⟨ct0, ct1, ctf, ctz⟩ := Ht_w21.out.v2
      obtain ⟨cn0, cn1, cnf, cnz⟩ := Hn_w21.out.v2
      obtain ⟨cs0, cs1, csf, csz⟩ := Hs_w21.out.v2
      obtain ⟨ca0, ca1, caf, caz⟩ := Ha_w21.out.v2
      obtain ⟨cw0, cw1, cwf, cwz⟩ := Hw_w21.out.v2
      go_wp2_with fail
      clear cg0 cg1 cgf cgz ct0 ct1 ctf ctz cn0 cn1 cnf cnz cs0 cs1 csf csz ca0 ca1 caf caz cw0 cw1 cwf cwz
      refine (A34.out _).mono ?_
      rintro e w22 ⟨rfl, hb⟩
      have HB_w22 := Lib.hid (HB_w21.out.trans (hb.mono HB_w21.out.size))
      have Hg_w22 := Lib.hid (Hg_w21.out.later hb)
      have Ht_w22 := Lib.hid (Ht_w21.out.later hb)
      have Hn_w22 := Lib.hid (Hn_w21.out.later hb)
      have Hs_w22 := Lib.hid (Hs_w21.out.later hb)
      have Ha_w22 := Lib.hid (Ha_w21.out.later hb)
      have Hw_w22 := Lib.hid (Hw_w21.out.later hb)
      clear HB_w21 Hg_w21 Ht_w21 Hn_w21 Hs_w21 Ha_w21 Hw_w21
      clear hb
      go_wp2_with fail
      go_ret
      exact ⟨rfl, HB_w22.out⟩
  · have l1 := L1.out hn0
    have A33 := Lib.hid (fun w1 => alike33 nF ⟨0, 0⟩ nB nE w1)
    rw [l1] at A33
    clear l1
    have hne : (nE == 0) = false := by simp [hn0]
    refine HF.out.mono ?_
    rintro e w' ⟨rfl, rfl⟩
    go_wp2_with fail
    clear cg0 cg1 cgf cgz ct0 ct1 ctf ctz cn0 cn1 cnf cnz cs0 cs1 csf csz ca0 ca1 caf caz
    have hnw := Box.new w10 #[.int .i64 0, .int .i64 0] 24
    have hbw : Below w10.heap.size w10 (w10.alloc (.cells #[.int .i64 0, .int .i64 0] 24)) := (Below.refl _ _).alloc (Nat.le_refl _) _
    have hlwg := Hg_w10.out.lt
    have hlwt := Ht_w10.out.lt
    have hlwn := Hn_w10.out.lt
    have hlws := Hs_w10.out.lt
    have hlwa := Ha_w10.out.lt
    have hlw := HB_w10.out.size
    generalize hgw : w10.alloc (.cells #[.int .i64 0, .int .i64 0] 24) = w11 at *
    clear hgw
    generalize hsw : w10.heap.size = Pw at hnw hlw hlwg hlwt hlwn hlws hlwa ⊢
    have Kgw := Lib.hid hlwg
    have Ktw := Lib.hid hlwt
    have Knw := Lib.hid hlwn
    have Ksw := Lib.hid hlws
    have Kaw := Lib.hid hlwa
    have Gw := Lib.hid hlw
    have Hw_w11 := Lib.hid hnw
    clear hsw hnw hlw hlwg hlwt hlwn hlws hlwa
    have HB_w11 := Lib.hid (HB_w10.out.trans (hbw.mono HB_w10.out.size))
    have Hg_w11 := Lib.hid (Hg_w10.out.later hbw)
    have Ht_w11 := Lib.hid (Ht_w10.out.later hbw)
    have Hn_w11 := Lib.hid (Hn_w10.out.later hbw)
    have Hs_w11 := Lib.hid (Hs_w10.out.later hbw)
    have Ha_w11 := Lib.hid (Ha_w10.out.later hbw)
    clear HB_w10 Hg_w10 Ht_w10 Hn_w10 Hs_w10 Ha_w10 hbw
    refine (A33.out _).mono ?_
    rintro e w14 ⟨rfl, hb⟩
    have HB_w14 := Lib.hid (HB_w11.out.trans (hb.mono HB_w11.out.size))
    have Hg_w14 := Lib.hid (Hg_w11.out.later hb)
    have Ht_w14 := Lib.hid (Ht_w11.out.later hb)
    have Hn_w14 := Lib.hid (Hn_w11.out.later hb)
    have Hs_w14 := Lib.hid (Hs_w11.out.later hb)
    have Ha_w14 := Lib.hid (Ha_w11.out.later hb)
    have Hw_w14 := Lib.hid (Hw_w11.out.later hb)
    clear HB_w11 Hg_w11 Ht_w11 Hn_w11 Hs_w11 Ha_w11 Hw_w11
    clear hb
    obtain ⟨cg0, cg1, cgf, cgz⟩ := Hg_w14.out.v2
    obtain ⟨ct0, ct1, ctf, ctz⟩ := Ht_w14.out.v2
    obtain ⟨cn0, cn1, cnf, cnz⟩ := Hn_w14.out.v2
    obtain ⟨cs0, cs1, csf, csz⟩ := Hs_w14.out.v2
    obtain ⟨ca0, ca1, caf, caz⟩ := Ha_w14.out.v2
    obtain ⟨cw0, cw1, cwf, cwz⟩ := Hw_w14.out.v2
    go_wp2_with fail
    clear cg0 cg1 cgf cgz ct0 ct1 ctf ctz cn0 cn1 cnf cnz cs0 cs1 csf csz ca0 ca1 caf caz cw0 cw1 cwf cwz
    refine (C57.out _ HB_w14.out).mono ?_
    rintro e w20 ⟨rfl, hb⟩
    have HB_w20 := Lib.hid (HB_w14.out.trans (hb.mono HB_w14.out.size))
    have Hg_w20 := Lib.hid (Hg_w14.out.later hb)
    have Ht_w20 := Lib.hid (Ht_w14.out.later hb)
    have Hn_w20 := Lib.hid (Hn_w14.out.later hb)
    have Hs_w20 := Lib.hid (Hs_w14.out.later hb)
    have Ha_w20 := Lib.hid (Ha_w14.out.later hb)
    have Hw_w20 := Lib.hid (Hw_w14.out.later hb)
    clear HB_w14 Hg_w14 Ht_w14 Hn_w14 Hs_w14 Ha_w14 Hw_w14
    clear hb
    obtain ⟨cg0, cg1, cgf, cgz⟩ := Hg_w20.out.v2
    obtain ⟨ct0, ct1, ctf, ctz⟩ := Ht_w20.out.v2
    obtain ⟨cn0, cn1, cnf, cnz⟩ := Hn_w20.out.v2
    obtain ⟨cs0, cs1, csf, csz⟩ := Hs_w20.out.v2
    obtain ⟨ca0, ca1, caf, caz⟩ := Ha_w20.out.v2
    obtain ⟨cw0, cw1, cwf, cwz⟩ := Hw_w20.out.v2
    by_cases hm0 : mE = 0
    · have hm1 := ckMasses_0 (EmE.out.trans hm0)
      obtain ⟨l4, l5⟩ := L4.out hm0
      have A33 := Lib.hid (fun w1 => alike33 sF (dr l) sB (whenB (decide (999999999 < (dr l).hi)) 4) w1)
      have A34 := Lib.hid (fun w1 => alike33 aF (ag l) aB (whenB (!decide ((ag l).lo ≤ (ag l).hi)) 15) w1)
      rw [l4] at A33
      rw [l5] at A34
      have C58b := Lib.hid (fun w1 hb => C58.out w1 hb (by omega) hm1.2.2)
      have C59b := Lib.hid (fun w1 hb => C59.out w1 hb hm1.1)
      have hdb := dr_bd l hm1.2.2
      have hlb : (l.length : Int) ≤ 300 := by omega
      obtain ⟨dR, hdR⟩ : ∃ x : Rg, dr l = x := ⟨_, rfl⟩
      obtain ⟨gR, hgR⟩ : ∃ x : Rg, ag l = x := ⟨_, rfl⟩
      rw [hdR] at C58b A33 hdb
      rw [hgR] at C59b A34
      have hd0 : 0 ≤ dR.hi ∧ dR.hi ≤ 300000000000 := by omega
      clear hdR hgR l4 l5 hm1 hdb
      subst hm0
      go_wp2_with fail
      clear cg0 cg1 cgf cgz ct0 ct1 ctf ctz cn0 cn1 cnf cnz cs0 cs1 csf csz ca0 ca1 caf caz cw0 cw1 cwf cwz
      refine (C58b.out _ HB_w20.out).mono ?_
      rintro e w21 ⟨rfl, hb⟩
      have HB_w21 := Lib.hid (HB_w20.out.trans (hb.mono HB_w20.out.size))
      have Hg_w21 := Lib.hid (Hg_w20.out.later hb)
      have Ht_w21 := Lib.hid (Ht_w20.out.later hb)
      have Hn_w21 := Lib.hid (Hn_w20.out.later hb)
      have Hs_w21 := Lib.hid (Hs_w20.out.later hb)
      have Ha_w21 := Lib.hid (Ha_w20.out.later hb)
      have Hw_w21 := Lib.hid (Hw_w20.out.later hb)
      clear HB_w20 Hg_w20 Ht_w20 Hn_w20 Hs_w20 Ha_w20 Hw_w20
      clear hb
      obtain ⟨cg0, cg1, cgf, cgz⟩ := Hg_w21.out.v2
      obtain ⟨ct0, ct1, ctf, ctz⟩ := Ht_w21.out.v2
      obtain ⟨cn0, cn1, cnf, cnz⟩ := Hn_w21.out.v2
      obtain ⟨cs0, cs1, csf, csz⟩ := Hs_w21.out.v2
      obtain ⟨ca0, ca1, caf, caz⟩ := Ha_w21.out.v2
      obtain ⟨cw0, cw1, cwf, cwz⟩ := Hw_w21.out.v2
      go_wp2_with fail
      clear cg0 cg1 cgf cgz ct0 ct1 ctf ctz cn0 cn1 cnf cnz cs0 cs1 csf csz ca0 ca1 caf caz cw0 cw1 cwf cwz
      have hB_w22 : Below w.heap.size w ((w21.setCell ⟨Pw, 0, none⟩ (.int .i64 dR.lo)).setCell ⟨Pw, 1, none⟩ (.int .i64 dR.hi)) := (HB_w21.out.setCell Gw.out _).setCell Gw.out _
      have hbg_w22 := (Hg_w21.out.other (a := ⟨Pw, 0, none⟩) (.int .i64 dR.lo) (by exact (Nat.ne_of_lt Kgw.out).symm)).other (a := ⟨Pw, 1, none⟩) (.int .i64 dR.hi) (by exact (Nat.ne_of_lt Kgw.out).symm)
      have hbt_w22 := (Ht_w21.out.other (a := ⟨Pw, 0, none⟩) (.int .i64 dR.lo) (by exact (Nat.ne_of_lt Ktw.out).symm)).other (a := ⟨Pw, 1, none⟩) (.int .i64 dR.hi) (by exact (Nat.ne_of_lt Ktw.out).symm)
      have hbn_w22 := (Hn_w21.out.other (a := ⟨Pw, 0, none⟩) (.int .i64 dR.lo) (by exact (Nat.ne_of_lt Knw.out).symm)).other (a := ⟨Pw, 1, none⟩) (.int .i64 dR.hi) (by exact (Nat.ne_of_lt Knw.out).symm)
      have hbs_w22 := (Hs_w21.out.other (a := ⟨Pw, 0, none⟩) (.int .i64 dR.lo) (by exact (Nat.ne_of_lt Ksw.out).symm)).other (a := ⟨Pw, 1, none⟩) (.int .i64 dR.hi) (by exact (Nat.ne_of_lt Ksw.out).symm)
      have hba_w22 := (Ha_w21.out.other (a := ⟨Pw, 0, none⟩) (.int .i64 dR.lo) (by exact (Nat.ne_of_lt Kaw.out).symm)).other (a := ⟨Pw, 1, none⟩) (.int .i64 dR.hi) (by exact (Nat.ne_of_lt Kaw.out).symm)
      have hbw_w22 : Box ((w21.setCell ⟨Pw, 0, none⟩ (.int .i64 dR.lo)).setCell ⟨Pw, 1, none⟩ (.int .i64 dR.hi)) Pw 24 [.int .i64 dR.lo, .int .i64 dR.hi] := (Hw_w21.out.set 0 _).set 1 _
      generalize ((w21.setCell ⟨Pw, 0, none⟩ (.int .i64 dR.lo)).setCell ⟨Pw, 1, none⟩ (.int .i64 dR.hi)) = w22 at *
      have HB_w22 := Lib.hid hB_w22
      have Hg_w22 := Lib.hid hbg_w22
      have Ht_w22 := Lib.hid hbt_w22
      have Hn_w22 := Lib.hid hbn_w22
      have Hs_w22 := Lib.hid hbs_w22
      have Ha_w22 := Lib.hid hba_w22
      have Hw_w22 := Lib.hid hbw_w22
      clear HB_w21 Hg_w21 Ht_w21 Hn_w21 Hs_w21 Ha_w21 Hw_w21 hB_w22 hbg_w22 hbt_w22 hbn_w22 hbs_w22 hba_w22 hbw_w22
      obtain ⟨cg0, cg1, cgf, cgz⟩ := Hg_w22.out.v2
      obtain ⟨ct0, ct1, ctf, ctz⟩ := Ht_w22.out.v2
      obtain ⟨cn0, cn1, cnf, cnz⟩ := Hn_w22.out.v2
      obtain ⟨cs0, cs1, csf, csz⟩ := Hs_w22.out.v2
      obtain ⟨ca0, ca1, caf, caz⟩ := Ha_w22.out.v2
      obtain ⟨cw0, cw1, cwf, cwz⟩ := Hw_w22.out.v2
      obtain ⟨hd0a, hd0b⟩ := hd0
      refine wp_region_later (by kernel_rfl) (by kernel_rfl) ?_
      repeat go_big_quiet_step ((first | (go_at_call 27; exact Calls.later_same (when27 _ _ _)) | (go_at_call 33; exact Calls.later (A33.out _))))
      refine wpQuiet_nil ?_
      rintro w23 ⟨⟨_, hb⟩, rfl⟩
      clear cg0 cg1 cgf cgz ct0 ct1 ctf ctz cn0 cn1 cnf cnz cs0 cs1 csf csz ca0 ca1 caf caz cw0 cw1 cwf cwz
      have HB_w23 := Lib.hid (HB_w22.out.trans (hb.mono HB_w22.out.size))
      have Hg_w23 := Lib.hid (Hg_w22.out.later hb)
      have Ht_w23 := Lib.hid (Ht_w22.out.later hb)
      have Hn_w23 := Lib.hid (Hn_w22.out.later hb)
      have Hs_w23 := Lib.hid (Hs_w22.out.later hb)
      have Ha_w23 := Lib.hid (Ha_w22.out.later hb)
      have Hw_w23 := Lib.hid (Hw_w22.out.later hb)
      clear HB_w22 Hg_w22 Ht_w22 Hn_w22 Hs_w22 Ha_w22 Hw_w22
      clear hb
      obtain ⟨cg0, cg1, cgf, cgz⟩ := Hg_w23.out.v2
      obtain ⟨ct0, ct1, ctf, ctz⟩ := Ht_w23.out.v2
      obtain ⟨cn0, cn1, cnf, cnz⟩ := Hn_w23.out.v2
      obtain ⟨cs0, cs1, csf, csz⟩ := Hs_w23.out.v2
      obtain ⟨ca0, ca1, caf, caz⟩ := Ha_w23.out.v2
      obtain ⟨cw0, cw1, cwf, cwz⟩ := Hw_w23.out.v2
      go_wp2_with fail
      clear cg0 cg1 cgf cgz ct0 ct1 ctf ctz cn0 cn1 cnf cnz cs0 cs1 csf csz ca0 ca1 caf caz cw0 cw1 cwf cwz
      refine (C59b.out _ HB_w23.out).mono ?_
      rintro e w24 ⟨rfl, hb⟩
      have HB_w24 := Lib.hid (HB_w23.out.trans (hb.mono HB_w23.out.size))
      have Hg_w24 := Lib.hid (Hg_w23.out.later hb)
      have Ht_w24 := Lib.hid (Ht_w23.out.later hb)
      have Hn_w24 := Lib.hid (Hn_w23.out.later hb)
      have Hs_w24 := Lib.hid (Hs_w23.out.later hb)
      have Ha_w24 := Lib.hid (Ha_w23.out.later hb)
      have Hw_w24 := Lib.hid (Hw_w23.out.later hb)
      clear HB_w23 Hg_w23 Ht_w23 Hn_w23 Hs_w23 Ha_w23 Hw_w23
      clear hb
      obtain ⟨cg0, cg1, cgf, cgz⟩ := Hg_w24.out.v2
      obtain ⟨ct0, ct1, ctf, ctz⟩ := Ht_w24.out.v2
      obtain ⟨cn0, cn1, cnf, cnz⟩ := Hn_w24.out.v2
      obtain ⟨cs0, cs1, csf, csz⟩ := Hs_w24.out.v2
      obtain ⟨ca0, ca1, caf, caz⟩ := Ha_w24.out.v2
      obtain ⟨cw0, cw1, cwf, cwz⟩ := Hw_w24.out.v2
      go_wp2_with fail
      clear cg0 cg1 cgf cgz ct0 ct1 ctf ctz cn0 cn1 cnf cnz cs0 cs1 csf csz ca0 ca1 caf caz cw0 cw1 cwf cwz
      have hnb := Box.new w24 #[.int .i64 gR.lo, .int .i64 gR.hi] 24
      have hbb : Below w24.heap.size w24 (w24.alloc (.cells #[.int .i64 gR.lo, .int .i64 gR.hi] 24)) := (Below.refl _ _).alloc (Nat.le_refl _) _
      have hlbg := Hg_w24.out.lt
      have hlbt := Ht_w24.out.lt
      have hlbn := Hn_w24.out.lt
      have hlbs := Hs_w24.out.lt
      have hlba := Ha_w24.out.lt
      have hlbw := Hw_w24.out.lt
      have hlb := HB_w24.out.size
      generalize hgb : w24.alloc (.cells #[.int .i64 gR.lo, .int .i64 gR.hi] 24) = w25 at *
      clear hgb
      generalize hsb : w24.heap.size = Pb at hnb hlb hlbg hlbt hlbn hlbs hlba hlbw ⊢
      have Kgb := Lib.hid hlbg
      have Ktb := Lib.hid hlbt
      have Knb := Lib.hid hlbn
      have Ksb := Lib.hid hlbs
      have Kab := Lib.hid hlba
      have Kwb := Lib.hid hlbw
      have Gb := Lib.hid hlb
      have Hb_w25 := Lib.hid hnb
      clear hsb hnb hlb hlbg hlbt hlbn hlbs hlba hlbw
      have HB_w25 := Lib.hid (HB_w24.out.trans (hbb.mono HB_w24.out.size))
      have Hg_w25 := Lib.hid (Hg_w24.out.later hbb)
      have Ht_w25 := Lib.hid (Ht_w24.out.later hbb)
      have Hn_w25 := Lib.hid (Hn_w24.out.later hbb)
      have Hs_w25 := Lib.hid (Hs_w24.out.later hbb)
      have Ha_w25 := Lib.hid (Ha_w24.out.later hbb)
      have Hw_w25 := Lib.hid (Hw_w24.out.later hbb)
      clear HB_w24 Hg_w24 Ht_w24 Hn_w24 Hs_w24 Ha_w24 Hw_w24 hbb
      obtain ⟨cg0, cg1, cgf, cgz⟩ := Hg_w25.out.v2
      obtain ⟨ct0, ct1, ctf, ctz⟩ := Ht_w25.out.v2
      obtain ⟨cn0, cn1, cnf, cnz⟩ := Hn_w25.out.v2
      obtain ⟨cs0, cs1, csf, csz⟩ := Hs_w25.out.v2
      obtain ⟨ca0, ca1, caf, caz⟩ := Ha_w25.out.v2
      obtain ⟨cw0, cw1, cwf, cwz⟩ := Hw_w25.out.v2
      obtain ⟨cb0, cb1, cbf, cbz⟩ := Hb_w25.out.v2
      refine wp_region_later (by kernel_rfl) (by kernel_rfl) ?_
      repeat go_big_quiet_step ((first | (go_at_call 27; exact Calls.later_same (when27 _ _ _)) | (go_at_call 33; exact Calls.later (A34.out _))))
      refine wpQuiet_nil ?_
      rintro w26 ⟨⟨_, hb⟩, rfl⟩
      clear cg0 cg1 cgf cgz ct0 ct1 ctf ctz cn0 cn1 cnf cnz cs0 cs1 csf csz ca0 ca1 caf caz cw0 cw1 cwf cwz cb0 cb1 cbf cbz
      have HB_w26 := Lib.hid (HB_w25.out.trans (hb.mono HB_w25.out.size))
      have Hg_w26 := Lib.hid (Hg_w25.out.later hb)
      have Ht_w26 := Lib.hid (Ht_w25.out.later hb)
      have Hn_w26 := Lib.hid (Hn_w25.out.later hb)
      have Hs_w26 := Lib.hid (Hs_w25.out.later hb)
      have Ha_w26 := Lib.hid (Ha_w25.out.later hb)
      have Hw_w26 := Lib.hid (Hw_w25.out.later hb)
      have Hb_w26 := Lib.hid (Hb_w25.out.later hb)
      clear HB_w25 Hg_w25 Ht_w25 Hn_w25 Hs_w25 Ha_w25 Hw_w25 Hb_w25
      clear hb
      go_wp2_with fail
      go_ret
      exact ⟨rfl, HB_w26.out⟩
    · obtain ⟨l4, l5⟩ := L3.out hm0
      have A33 := Lib.hid (fun w1 => alike33 sF sF sB mE w1)
      have A34 := Lib.hid (fun w1 => alike33 aF aF aB mE w1)
      rw [l4] at A33
      rw [l5] at A34
      clear l4 l5
      have hne : (mE == 0) = false := by simp [hm0]
      go_wp2_with fail
      clear cg0 cg1 cgf cgz ct0 ct1 ctf ctz cn0 cn1 cnf cnz cs0 cs1 csf csz ca0 ca1 caf caz cw0 cw1 cwf cwz
      refine (A33.out _).mono ?_
      rintro e w21 ⟨rfl, hb⟩
      have HB_w21 := Lib.hid (HB_w20.out.trans (hb.mono HB_w20.out.size))
      have Hg_w21 := Lib.hid (Hg_w20.out.later hb)
      have Ht_w21 := Lib.hid (Ht_w20.out.later hb)
      have Hn_w21 := Lib.hid (Hn_w20.out.later hb)
      have Hs_w21 := Lib.hid (Hs_w20.out.later hb)
      have Ha_w21 := Lib.hid (Ha_w20.out.later hb)
      have Hw_w21 := Lib.hid (Hw_w20.out.later hb)
      clear HB_w20 Hg_w20 Ht_w20 Hn_w20 Hs_w20 Ha_w20 Hw_w20
      clear hb
      obtain ⟨cg0, cg1, cgf, cgz⟩ := Hg_w21.out.v2
      obtain ⟨ct0, ct1, ctf, ctz⟩ := Ht_w21.out.v2
      obtain ⟨cn0, cn1, cnf, cnz⟩ := Hn_w21.out.v2
      obtain ⟨cs0, cs1, csf, csz⟩ := Hs_w21.out.v2
      obtain ⟨ca0, ca1, caf, caz⟩ := Ha_w21.out.v2
      obtain ⟨cw0, cw1, cwf, cwz⟩ := Hw_w21.out.v2
      go_wp2_with fail
      clear cg0 cg1 cgf cgz ct0 ct1 ctf ctz cn0 cn1 cnf cnz cs0 cs1 csf csz ca0 ca1 caf caz cw0 cw1 cwf cwz
      refine (A34.out _).mono ?_
      rintro e w22 ⟨rfl, hb⟩
      have HB_w22 := Lib.hid (HB_w21.out.trans (hb.mono HB_w21.out.size))
      have Hg_w22 := Lib.hid (Hg_w21.out.later hb)
      have Ht_w22 := Lib.hid (Ht_w21.out.later hb)
      have Hn_w22 := Lib.hid (Hn_w21.out.later hb)
      have Hs_w22 := Lib.hid (Hs_w21.out.later hb)
      have Ha_w22 := Lib.hid (Ha_w21.out.later hb)
      have Hw_w22 := Lib.hid (Hw_w21.out.later hb)
      clear HB_w21 Hg_w21 Ht_w21 Hn_w21 Hs_w21 Ha_w21 Hw_w21
      clear hb
      go_wp2_with fail
      go_ret
      exact ⟨rfl, HB_w22.out⟩
end Go.Proofs.Ytlakcghdehdeiaa

namespace Go.Proofs.Ytlakcghdehdeiaa
open Go Go.Proofs Go.RowKit Go.ChangeShapes Go.WideShapes Go.ChangeAt Go.Joins Go.Deep

set_option maxRecDepth 100000 in
theorem nets_contract (H : Type) (enc : TypeId × Value → H) (W : World) (base : Nat) (args : Array Value) (ds gs : List (DataW H)) (before : List MemPlace)
    (hval : ∀ (j : Nat) t v, Try.f14.params[j]? = some t → args[j]? = some v → Value.okWide Try.prog W .any base t v)
    (hW : DataW.Whole enc Try.prog Try.f14.params.toList Rows.weighNetsSpec.vars false W args.toList ds gs before) :
    Calls Try.prog 14 args W fun e W' => ∃ v, e = .returned v ∧ Rows.weighNetsSpec.post enc Try.prog Try.f14 false true false false W args v W' := by
  have hW' := hW
  obtain ⟨p, q, hA0, hV, rfl, hfz, hnd⟩ := hW
  have hA : DataW.TrodAll enc Try.prog W 0 (fun _ => true) true Try.f14.params.toList args.toList ds p := hA0
  rw [Try.params14] at hA hval
  obtain ⟨v0, v1, v2, d0, d1, d2, p0, p1, p2, rfl, rfl, rfl, h0, h1, h2⟩ := trodAll_three hA
  obtain ⟨g, rfl⟩ := rg_open (hval 0 24 v0 rfl rfl) h0
  obtain ⟨t, rfl⟩ := rg_open (hval 1 24 v1 rfl rfl) h1
  obtain ⟨a0, n, c, rfl⟩ := okWide_slice Try.underlying26 (hval 2 26 v2 rfl rfl)
  obtain ⟨hn, hl⟩ := sl_ranges h2
  have key : Calls Try.prog 14 #[.agg #[.int .i64 g.lo, .int .i64 g.hi], .agg #[.int .i64 t.lo, .int .i64 t.hi], .slice a0 n c] W (Ret (.bool true) W) := by
    by_cases hbig : 300 < n
    · exact nets14_big a0 n c g t W hn hbig
    · obtain ⟨l, hll, hs, _⟩ := hl (by omega)
      exact nets14 _ l g t W hs (by omega)
  refine key.mono fun e W' ⟨he, hb⟩ => ⟨_, he, ?_⟩
  exact law_post rfl rfl rfl (by rw [Try.params14]; decide) hW' rfl rfl rfl hb

set_option maxRecDepth 100000 in
theorem nets_lifted (os : Os) (started : os.Started) (H : Type) (enc : TypeId × Value → H) :
    ReturnsInHanded {} Try.checked os 14 .any (Rows.weighNetsSpec.pre6 enc Try.prog Try.f14 Rows.weighNetsRow.domain false) (Rows.weighNetsSpec.post enc Try.prog Try.f14 false true false false) := by
  refine returnsInHanded_of_change (C := Try.checked) Try.own started (by kernel_rfl) Try.func14
    (ChangeSpec.witness6 (enc := enc) (C := Try.checked) false ⟨#[], #[.agg #[.int .i64 0, .int .i64 0], .agg #[.int .i64 0, .int .i64 0], .slice none 0 0], []⟩ 8 (by kernel_rfl) (by kernel_rfl) (by kernel_rfl) (by kernel_rfl)) ?_
  intro W base args ds gs before hval hW _ _
  exact nets_contract H enc W base args ds gs before hval hW

theorem weighNets_holds : Rows.WeighNetsSaid :=
  OpenClaim.holds_of_wide 14 Try.f14 rfl rfl rfl rfl rfl rfl rfl ⟨rfl, rfl, rfl, rfl, rfl⟩ rfl rfl rfl rfl rfl (by kernel_rfl) Try.func14 (by kernel_rfl)
    (of_decide_eq_true (by kernel_rfl)) (by unfold Func.isWrapper; first | (rw [if_pos (by decide +kernel)]; kernel_rfl) | (rw [if_neg (by decide +kernel)]; exact ⟨rfl, rfl⟩))
    (fun os started H enc _ => nets_lifted os started H enc)
end Go.Proofs.Ytlakcghdehdeiaa
