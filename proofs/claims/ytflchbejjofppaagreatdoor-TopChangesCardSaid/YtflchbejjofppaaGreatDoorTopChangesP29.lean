/- Lemmas on the way to the law TopChanges (part 29): Kj Kk Kl Hj -/
import Derived.Test.YtflchbejjofppaaGreatDoorTopChangesP28
import Derived.Test.YtflchbejjofppaaGreatDoorTopChangesP26
import Derived.Test.YtflchbejjofppaaGreatDoorTopChangesP20
set_option linter.unusedVariables false
set_option linter.unusedSimpArgs false

/- Walks: the reference's parse. -/
namespace Go.Proofs.YtflchbejjofppaaGreatDoor.Nu
open Go Go.Proofs Go.RowKit Go.Proofs.YtflchbejjofppaaGreatDoor
structure PaI (L m : Nat) (c : List UInt8) (d : List Nat) : Prop where
  pos : 0 < c.length
  len : 9 * d.length + c.length = L
  dig : ∀ x ∈ c, isDig x
  dg : Dg 1000000000 d
  eq : val 1000000000 d + 1000000000 ^ d.length * dval c = m
theorem PaI.step {L m : Nat} {c : List UInt8} {d : List Nat} (h : PaI L m c d) (hc : 9 < c.length) :
    PaI L m (c.take (c.length - 9)) (d ++ [dval (c.drop (c.length - 9))]) ∧ dval (c.drop (c.length - 9)) < 1000000000 ∧ ∀ x ∈ c.drop (c.length - 9), isDig x := by
  have hd : ∀ x ∈ c.drop (c.length - 9), isDig x := fun x hx => h.dig x (List.mem_of_mem_drop hx)
  have hl : (c.drop (c.length - 9)).length = 9 := by rw [List.length_drop]; omega
  have hx : dval (c.drop (c.length - 9)) < 1000000000 := by
    have := dval_lt hd
    rw [hl, show (10 : Nat) ^ 9 = 1000000000 by decide] at this
    exact this
  refine ⟨⟨by rw [List.length_take]; omega, by rw [List.length_append, List.length_singleton, List.length_take]; have := h.len; omega, fun x hx => h.dig x (List.mem_of_mem_take hx), h.dg.app (Dg.one hx), ?_⟩, hx, hd⟩
  have e := dval_app (c.take (c.length - 9)) (c.drop (c.length - 9))
  rw [List.take_append_drop, hl, show (10 : Nat) ^ 9 = 1000000000 by decide] at e
  rw [val_app, val_one, List.length_append, List.length_singleton, Nat.pow_succ, Nat.add_assoc, Nat.mul_assoc, ← Nat.mul_add, show dval (c.drop (c.length - 9)) + 1000000000 * dval (c.take (c.length - 9)) = dval c by omega]
  exact h.eq
theorem PaI.done {L m : Nat} {c : List UInt8} {d : List Nat} (h : PaI L m c d) (hc : c.length ≤ 9) : dval c < 1000000000 ∧ val 1000000000 (d ++ [dval c]) = m ∧ Dg 1000000000 (d ++ [dval c]) := by
  have hx : dval c < 1000000000 := by
    have h1 := dval_lt h.dig
    have h2 : (10 : Nat) ^ c.length ≤ 10 ^ 9 := Nat.pow_le_pow_right (by decide) hc
    rw [show (10 : Nat) ^ 9 = 1000000000 by decide] at h2
    omega
  exact ⟨hx, by rw [val_app, val_one]; exact h.eq, h.dg.app (Dg.one hx)⟩
set_option maxRecDepth 100000 in
set_option maxHeartbeats 400000 in
theorem parse107 (w : World) (z : Int) (K : Nat) (hz : Nd K z) (hK : K ≤ 900000) : Calls Tryz.prog 107 #[.string (txz z)] w (RetG w z) := by
  obtain ⟨p, hp⟩ : ∃ p, decide (z < 0) = p := ⟨_, rfl⟩
  have HZS := Lib.hid (show signed p z.natAbs = z by rw [← hp]; unfold signed; by_cases h : z < 0 <;> simp [h] <;> omega)
  have HSG := Lib.hid (fun (w1 : World) (v : Value) (l : List Nat) (h : Sc encD 1 w1 w1.heap.size v l) (hd : Dg 1000000000 l) (hv : val 1000000000 l = z.natAbs) => (by
    obtain ⟨a, c, rfl, _⟩ := h.shape
    have h := signed80 w1 p a _ c l h hd
    rw [hv, HZS.out] at h
    exact ⟨a, l.length, c, rfl, h⟩ : ∃ a n c, v = .slice a n c ∧ Calls Tryz.prog 80 #[.bool p, .slice a n c] w1 (RetG w1 z)))
  have hln := nd_dec hz.lt
  have h0 := dec_pos_len z.natAbs
  obtain ⟨b, hb⟩ : ∃ b, Lib.decDigits z.natAbs = b := ⟨_, rfl⟩
  rw [hb] at hln h0
  have HPA := Lib.hid (show PaI b.length z.natAbs b [] from ⟨h0, by simp, by rw [← hb]; exact dec_dig _, Dg.nil _, by rw [← hb, dval_dec]; simp [val]⟩)
  have hsg : (p = true ∧ txz z = tx (45 :: b)) ∨ (p = false ∧ txz z = tx b) := by
    by_cases hn : z < 0
    · exact .inl ⟨by rw [← hp]; exact decide_eq_true hn, by unfold txz; rw [itoa_ng hn, hb]⟩
    · exact .inr ⟨by rw [← hp]; exact decide_eq_false hn, by unfold txz; rw [itoa_nn (by omega), toNat_abs (by omega), hb]⟩
  have hsb : (tx b).size = b.length := tx_size _
  have hh0 : b.head? ≠ some 45 := by
    rw [← hb]
    intro e
    exact dec_no45 _ (List.mem_of_mem_head? e)
  have hi0 : ∀ (w : World), (Instr.index 9 (.string (tx b)) (.int .i64 0)).run Tryz.prog w = .ok (.int .u8 (b[0].toNat : Int)) w := fun w => run_idx (P := Tryz.prog) (t := 9) Tryz.underlying9 _ 0 h0 w
  have hc0 : ((b[0].toNat : Int) == 45) = false := beq_eq_false_iff_ne.2 (fun e => by
    rw [List.head?_eq_getElem?, List.getElem?_eq_getElem h0] at hh0
    exact hh0 (congrArg some (UInt8.toNat_inj.1 (by rw [show (45 : UInt8).toNat = 45 from rfl]; omega))))
  have hi1 : ∀ (w : World), (Instr.index 9 (.string (tx (45 :: b))) (.int .i64 0)).run Tryz.prog w = .ok (.int .u8 45) w := fun w => run_idx (P := Tryz.prog) (t := 9) Tryz.underlying9 (45 :: b) 0 (by simp) w
  have hx0 : (tx (45 :: b)).extract 1 (b.length + 1) = tx b := by
    rw [tx_extract]; simp
  have hs1 : (tx (45 :: b)).size = b.length + 1 := tx_size _
  have hL : b.length ≤ 8100001 := by omega
  have d1 : decide (0 < b.length) = true := decide_eq_true h0
  generalize hTX : txz z = X at *
  clear hTX hln hh0 hb hp hz hK
  have HB := Lib.hid ((Below.refl w.heap.size w).alloc (Nat.le_refl _) (.cells #[.bool false, .slice none 0 0] 99))
  have HZ := Lib.hid (Box.new w #[.bool false, .slice none 0 0] 99)
  obtain ⟨z0, z1, zf, zz⟩ := HZ.out.v2
  generalize b[0].toNat = cc at *
  generalize hX1 : tx (45 :: b) = X1 at *
  generalize hB1 : tx b = B1 at *
  obtain ⟨L, hLb⟩ : ∃ L, b.length = L := ⟨_, rfl⟩
  have HT0 := Lib.hid hB1
  rw [hLb] at hsb hx0 hs1 hL d1 HPA
  clear hX1 hB1 hLb h0
  rcases hsg with ⟨rfl, rfl⟩ | ⟨rfl, rfl⟩
  · clear hi0 hc0 HZS
    go_enter Tryz.func107, Tryz.ntmps107
    go_wp2_with fail
    clear hsb d1
    go_loopw [0, 4] (fun s o wr => ∃ (c : List UInt8) (v : Value) (d : List Nat), s = .string (tx c) ∧ v = o ∧ PaI L z.natAbs c d ∧ Below w.heap.size w wr ∧ Box wr w.heap.size 99 [.bool false, .slice none 0 0] ∧ w.heap.size + 1 ≤ wr.heap.size ∧ Own encD 1 3 wr (w.heap.size + 1) v d) (fun s _ _ => slen s)
    case atStart => exact ⟨b, _, [], by rw [HT0.out], rfl, HPA.out, HB.out, HZ.out, by simp, Own.nil _ _ _ _ _⟩
    case round =>
      clear HPA HT0 HB HZ z0 z1 zf zz
      obtain ⟨c, v, d, rfl, rfl, hpa, hbe, hbz, hsz, hown⟩ := hrel
      have HPA := Lib.hid hpa
      have HB := Lib.hid hbe
      have HZ := Lib.hid hbz
      have HO := Lib.hid hown
      have HNZ := Lib.hid hsz
      have hcz : (tx c).size = c.length := tx_size c
      have hdl : d.length ≤ 1000000 := by have := hpa.len; omega
      have hcl : c.length ≤ 8100001 := by have := hpa.len; omega
      by_cases h9 : 9 < c.length
      · obtain ⟨hn, hx9, hdd⟩ := hpa.step h9
        have HN := Lib.hid hn
        have hv1 : ∀ w1 : World, Calls Tryz.prog 132 #[.string (tx (c.drop (c.length - 9)))] w1 fun e w' => e = .returned (.int .i64 ((dval (c.drop (c.length - 9)) : Nat) : Int)) ∧ w1 = w' := fun w1 => value132 w1 _ (by rw [List.length_drop]; omega) hdd
        have HV := Lib.hid hv1
        have e1 : (tx c).extract (c.length - 9) c.length = tx (c.drop (c.length - 9)) := by rw [tx_extract, List.take_length]
        have e2 : (tx c).extract 0 (c.length - 9) = tx (c.take (c.length - 9)) := by rw [tx_extract]; simp
        have HM := Lib.hid (show slen (.string (tx (c.take (c.length - 9)))) < slen (.string (tx c)) by simp only [slen, tx_size, List.length_take]; omega)
        have k1 : decide (9 < c.length) = true := decide_eq_true h9
        have k1' : decide ((9 : Int) < (c.length : Int)) = true := decide_eq_true (by omega)
        have k3 : (9 < c.length) = True := eq_true h9
        obtain ⟨M, hM⟩ : ∃ M, c.length - 9 = M := ⟨_, rfl⟩
        have k2 : IntKind.i64.wrap ((c.length : Int) - 9) = (M : Int) := by rw [IntWalk.i64_in _ (by omega)]; omega
        have hmn : M ≤ c.length := by omega
        rw [hM] at HN HV e1 e2 HM hx9
        generalize tx (c.drop M) = T1 at *
        obtain ⟨T2, hT2⟩ : ∃ T, tx (c.take M) = T := ⟨_, rfl⟩
        have HT2 := Lib.hid hT2
        rw [hT2] at e2 HM
        generalize dval (c.drop M) = x at *
        have HBA := Lib.hid (HB.out.alloc HB.out.size (.cells #[.int .i64 (x : Int)] 3))
        have HOA := Lib.hid (HO.out.alloc (.cells #[.int .i64 (x : Int)] 3))
        have HZA := Lib.hid (HZ.out.alloc (.cells #[.int .i64 (x : Int)] 3))
        have HSZ := Lib.hid (show w.heap.size + 1 ≤ (wr.alloc (.cells #[.int .i64 (x : Int)] 3)).heap.size by simp; omega)
        have HRH := Lib.hid (Box.new wr #[.int .i64 (x : Int)] 3)
        have HDL := Lib.hid hdl
        clear hpa hbe hbz hsz hown hn hx9 hdd hv1 h9 hM hT2 hdl HPA HB HO HZ
        generalize tx c = T0 at *
        generalize c.length = N at *
        go_wp2_with fail
        refine (HV.out _).mono ?_
        rintro e4 w4 ⟨rfl, rfl⟩
        go_wp2_with (at_builtin; (refine wpList_pushB encD 1 8 26 3 _ Tryz.underlying26 infoD rfl (by decide) (by decide) encD_len encD_one d x (w.heap.size + 1) _ _ _ _ HRH.out rfl _ HOA.out HSZ.out HDL.out rfl _ _ rfl rfl rfl ?_); intro v' w' hown' hg')
        go_roundw
        case rel => exact ⟨c.take M, v', d ++ [x], by rw [HT2.out], rfl, HN.out, HBA.out.grown hg' (by have := HBA.out.size; omega) (fun k hk => by have := HOA.out.lt' k hk; omega), HZA.out.kept hg' (fun e => by have := HOA.out.lt' _ e.symm; omega), Nat.le_trans HSZ.out hg'.size, hown'⟩
        case measure => exact HM.out
      · obtain ⟨hx9, hve, hdd⟩ := hpa.done (by omega)
        have HVE := Lib.hid (And.intro hve hdd)
        have HV := Lib.hid (fun w1 : World => value132 w1 c (by omega) hpa.dig)
        have k1 : decide (9 < c.length) = false := decide_eq_false h9
        have k1' : decide ((9 : Int) < (c.length : Int)) = false := decide_eq_false (by omega)
        generalize dval c = x at *
        have HBA := Lib.hid (HB.out.alloc HB.out.size (.cells #[.int .i64 (x : Int)] 3))
        have HOA := Lib.hid (HO.out.alloc (.cells #[.int .i64 (x : Int)] 3))
        have HZA := Lib.hid (HZ.out.alloc (.cells #[.int .i64 (x : Int)] 3))
        have HSZ := Lib.hid (show w.heap.size + 1 ≤ (wr.alloc (.cells #[.int .i64 (x : Int)] 3)).heap.size by simp; omega)
        have HRH := Lib.hid (Box.new wr #[.int .i64 (x : Int)] 3)
        have HDL := Lib.hid hdl
        have HDL2 := Lib.hid (show (d ++ [x]).length ≤ 1000000000 by rw [List.length_append, List.length_singleton]; omega)
        clear hpa hbe hbz hsz hown hve hx9 hdd h9 hdl HPA HB HO HZ
        generalize tx c = T0 at *
        generalize c.length = N at *
        go_wp2_with fail
        refine (HV.out _).mono ?_
        rintro e4 w4 ⟨rfl, rfl⟩
        go_wp2_with (at_builtin; (refine wpList_pushB encD 1 8 26 3 _ Tryz.underlying26 infoD rfl (by decide) (by decide) encD_len encD_one d x (w.heap.size + 1) _ _ _ _ HRH.out rfl _ HOA.out HSZ.out HDL.out rfl _ _ rfl rfl rfl ?_); intro v' w' hown' hg'; obtain ⟨a', n', c', e', hcall⟩ := HSG.out w' v' _ (Sc.of_own encD_len HDL2.out hown') HVE.out.2 HVE.out.1; subst e')
        refine hcall.mono ?_
        rintro e5 w5 ⟨v5, rfl, hi5, hb⟩
        have HI5 := Lib.hid hi5
        have HBW := Lib.hid (HBA.out.grown hg' (by have := HBA.out.size; omega) (fun k hk => by have := HOA.out.lt' k hk; omega))
        have HZW := Lib.hid (HZA.out.kept hg' (fun e => by have := HOA.out.lt' _ e.symm; omega))
        have HB5 := Lib.hid (HBW.out.trans (hb.mono HBW.out.size))
        have HZ5 := Lib.hid (HZW.out.later hb)
        obtain ⟨a5, n5, c5, l5, rfl, _⟩ := hi5
        obtain ⟨z0, z1, zf, zz⟩ := HZ5.out.v2
        clear hb hcall hown' hg'
        go_wp2_with fail
        refine bodyPost_ret (v := .agg #[.bool (decide (z < 0)), .slice a5 n5 c5]) (by simp [results, Tryz.results107, go_sem, *]) rfl ?_
        refine ⟨_, rfl, IgR.put HI5.out HZ5.out _ _, ?_⟩
        repeat (first | with_reducible exact HB5.out | with_reducible exact Below.refl _ _ | refine Below.setCell ?_ (by first | (dsimp only; omega) | (simp; done) | (simp; omega)) _ | refine Below.alloc ?_ (by first | omega | (simp; done) | (simp; omega)) _ | refine Below.drew ?_)
  · clear hi1 hx0 hs1 HZS
    go_enter Tryz.func107, Tryz.ntmps107
    go_wp2_with fail
    clear hsb d1
    go_loopw [0, 4] (fun s o wr => ∃ (c : List UInt8) (v : Value) (d : List Nat), s = .string (tx c) ∧ v = o ∧ PaI L z.natAbs c d ∧ Below w.heap.size w wr ∧ Box wr w.heap.size 99 [.bool false, .slice none 0 0] ∧ w.heap.size + 1 ≤ wr.heap.size ∧ Own encD 1 3 wr (w.heap.size + 1) v d) (fun s _ _ => slen s)
    case atStart => exact ⟨b, _, [], by rw [HT0.out], rfl, HPA.out, HB.out, HZ.out, by simp, Own.nil _ _ _ _ _⟩
    case round =>
      clear HPA HT0 HB HZ z0 z1 zf zz
      obtain ⟨c, v, d, rfl, rfl, hpa, hbe, hbz, hsz, hown⟩ := hrel
      have HPA := Lib.hid hpa
      have HB := Lib.hid hbe
      have HZ := Lib.hid hbz
      have HO := Lib.hid hown
      have HNZ := Lib.hid hsz
      have hcz : (tx c).size = c.length := tx_size c
      have hdl : d.length ≤ 1000000 := by have := hpa.len; omega
      have hcl : c.length ≤ 8100001 := by have := hpa.len; omega
      by_cases h9 : 9 < c.length
      · obtain ⟨hn, hx9, hdd⟩ := hpa.step h9
        have HN := Lib.hid hn
        have hv1 : ∀ w1 : World, Calls Tryz.prog 132 #[.string (tx (c.drop (c.length - 9)))] w1 fun e w' => e = .returned (.int .i64 ((dval (c.drop (c.length - 9)) : Nat) : Int)) ∧ w1 = w' := fun w1 => value132 w1 _ (by rw [List.length_drop]; omega) hdd
        have HV := Lib.hid hv1
        have e1 : (tx c).extract (c.length - 9) c.length = tx (c.drop (c.length - 9)) := by rw [tx_extract, List.take_length]
        have e2 : (tx c).extract 0 (c.length - 9) = tx (c.take (c.length - 9)) := by rw [tx_extract]; simp
        have HM := Lib.hid (show slen (.string (tx (c.take (c.length - 9)))) < slen (.string (tx c)) by simp only [slen, tx_size, List.length_take]; omega)
        have k1 : decide (9 < c.length) = true := decide_eq_true h9
        have k1' : decide ((9 : Int) < (c.length : Int)) = true := decide_eq_true (by omega)
        have k3 : (9 < c.length) = True := eq_true h9
        obtain ⟨M, hM⟩ : ∃ M, c.length - 9 = M := ⟨_, rfl⟩
        have k2 : IntKind.i64.wrap ((c.length : Int) - 9) = (M : Int) := by rw [IntWalk.i64_in _ (by omega)]; omega
        have hmn : M ≤ c.length := by omega
        rw [hM] at HN HV e1 e2 HM hx9
        generalize tx (c.drop M) = T1 at *
        obtain ⟨T2, hT2⟩ : ∃ T, tx (c.take M) = T := ⟨_, rfl⟩
        have HT2 := Lib.hid hT2
        rw [hT2] at e2 HM
        generalize dval (c.drop M) = x at *
        have HBA := Lib.hid (HB.out.alloc HB.out.size (.cells #[.int .i64 (x : Int)] 3))
        have HOA := Lib.hid (HO.out.alloc (.cells #[.int .i64 (x : Int)] 3))
        have HZA := Lib.hid (HZ.out.alloc (.cells #[.int .i64 (x : Int)] 3))
        have HSZ := Lib.hid (show w.heap.size + 1 ≤ (wr.alloc (.cells #[.int .i64 (x : Int)] 3)).heap.size by simp; omega)
        have HRH := Lib.hid (Box.new wr #[.int .i64 (x : Int)] 3)
        have HDL := Lib.hid hdl
        clear hpa hbe hbz hsz hown hn hx9 hdd hv1 h9 hM hT2 hdl HPA HB HO HZ
        generalize tx c = T0 at *
        generalize c.length = N at *
        go_wp2_with fail
        refine (HV.out _).mono ?_
        rintro e4 w4 ⟨rfl, rfl⟩
        go_wp2_with (at_builtin; (refine wpList_pushB encD 1 8 26 3 _ Tryz.underlying26 infoD rfl (by decide) (by decide) encD_len encD_one d x (w.heap.size + 1) _ _ _ _ HRH.out rfl _ HOA.out HSZ.out HDL.out rfl _ _ rfl rfl rfl ?_); intro v' w' hown' hg')
        go_roundw
        case rel => exact ⟨c.take M, v', d ++ [x], by rw [HT2.out], rfl, HN.out, HBA.out.grown hg' (by have := HBA.out.size; omega) (fun k hk => by have := HOA.out.lt' k hk; omega), HZA.out.kept hg' (fun e => by have := HOA.out.lt' _ e.symm; omega), Nat.le_trans HSZ.out hg'.size, hown'⟩
        case measure => exact HM.out
      · obtain ⟨hx9, hve, hdd⟩ := hpa.done (by omega)
        have HVE := Lib.hid (And.intro hve hdd)
        have HV := Lib.hid (fun w1 : World => value132 w1 c (by omega) hpa.dig)
        have k1 : decide (9 < c.length) = false := decide_eq_false h9
        have k1' : decide ((9 : Int) < (c.length : Int)) = false := decide_eq_false (by omega)
        generalize dval c = x at *
        have HBA := Lib.hid (HB.out.alloc HB.out.size (.cells #[.int .i64 (x : Int)] 3))
        have HOA := Lib.hid (HO.out.alloc (.cells #[.int .i64 (x : Int)] 3))
        have HZA := Lib.hid (HZ.out.alloc (.cells #[.int .i64 (x : Int)] 3))
        have HSZ := Lib.hid (show w.heap.size + 1 ≤ (wr.alloc (.cells #[.int .i64 (x : Int)] 3)).heap.size by simp; omega)
        have HRH := Lib.hid (Box.new wr #[.int .i64 (x : Int)] 3)
        have HDL := Lib.hid hdl
        have HDL2 := Lib.hid (show (d ++ [x]).length ≤ 1000000000 by rw [List.length_append, List.length_singleton]; omega)
        clear hpa hbe hbz hsz hown hve hx9 hdd h9 hdl HPA HB HO HZ
        generalize tx c = T0 at *
        generalize c.length = N at *
        go_wp2_with fail
        refine (HV.out _).mono ?_
        rintro e4 w4 ⟨rfl, rfl⟩
        go_wp2_with (at_builtin; (refine wpList_pushB encD 1 8 26 3 _ Tryz.underlying26 infoD rfl (by decide) (by decide) encD_len encD_one d x (w.heap.size + 1) _ _ _ _ HRH.out rfl _ HOA.out HSZ.out HDL.out rfl _ _ rfl rfl rfl ?_); intro v' w' hown' hg'; obtain ⟨a', n', c', e', hcall⟩ := HSG.out w' v' _ (Sc.of_own encD_len HDL2.out hown') HVE.out.2 HVE.out.1; subst e')
        refine hcall.mono ?_
        rintro e5 w5 ⟨v5, rfl, hi5, hb⟩
        have HI5 := Lib.hid hi5
        have HBW := Lib.hid (HBA.out.grown hg' (by have := HBA.out.size; omega) (fun k hk => by have := HOA.out.lt' k hk; omega))
        have HZW := Lib.hid (HZA.out.kept hg' (fun e => by have := HOA.out.lt' _ e.symm; omega))
        have HB5 := Lib.hid (HBW.out.trans (hb.mono HBW.out.size))
        have HZ5 := Lib.hid (HZW.out.later hb)
        obtain ⟨a5, n5, c5, l5, rfl, _⟩ := hi5
        obtain ⟨z0, z1, zf, zz⟩ := HZ5.out.v2
        clear hb hcall hown' hg'
        go_wp2_with fail
        refine bodyPost_ret (v := .agg #[.bool (decide (z < 0)), .slice a5 n5 c5]) (by simp [results, Tryz.results107, go_sem, *]) rfl ?_
        refine ⟨_, rfl, IgR.put HI5.out HZ5.out _ _, ?_⟩
        repeat (first | with_reducible exact HB5.out | with_reducible exact Below.refl _ _ | refine Below.setCell ?_ (by first | (dsimp only; omega) | (simp; done) | (simp; omega)) _ | refine Below.alloc ?_ (by first | omega | (simp; done) | (simp; omega)) _ | refine Below.drew ?_)
end Go.Proofs.YtflchbejjofppaaGreatDoor.Nu
/- Walks: the reference's parts of a whole number. -/
namespace Go.Proofs.YtflchbejjofppaaGreatDoor.Nu
open Go Go.Proofs Go.RowKit Go.Proofs.YtflchbejjofppaaGreatDoor
def RetGG (w : World) (p q : Int) (e : Ending) (w' : World) : Prop := ∃ x y, e = .returned (.tuple #[x, y]) ∧ IgR w' x p ∧ IgR w' y q ∧ Below w.heap.size w w'
set_option maxRecDepth 100000 in
set_option maxHeartbeats 1000000 in
theorem parts76_int (w : World) (z : Int) (K : Nat) (hz : Nd K z) (hK : K ≤ 900000) : Calls Tryz.prog 76 #[.string (txz z)] w (RetGG w z 1) := by
  have hs := txz_size hz
  have hs2 : (txz z).size = (Lib.itoa z).length := tx_size _
  have HSL := Lib.hid (fun (w1 : World) => (by
    have h := slash74 w1 (Lib.itoa z) (by omega)
    rw [slash_no (itoa_slash z), ← hs2] at h
    exact h : Calls Tryz.prog 74 #[.string (txz z)] w1 fun e w' => e = .returned (.int .i64 (((txz z).size : Nat) : Int)) ∧ w1 = w'))
  have HPA := Lib.hid (fun (w1 : World) => parse107 w1 z K hz hK)
  have HWH := Lib.hid (fun (w1 : World) => whole49 w1 1 (by decide) (by decide))
  clear hs2 hz hK
  obtain ⟨X, hX⟩ : ∃ X, txz z = X := ⟨_, rfl⟩
  rw [hX] at HSL HPA hs ⊢
  clear hX
  have HB_0 := Lib.hid ((Below.refl w.heap.size w).alloc (Nat.le_refl _) (.cells #[.bool false, .slice none 0 0] 99))
  have HB := Lib.hid (HB_0.out.alloc HB_0.out.size (.cells #[.bool false, .slice none 0 0] 99))
  have HY := Lib.hid ((Box.new w #[.bool false, .slice none 0 0] 99).alloc (.cells #[.bool false, .slice none 0 0] 99))
  have HZ := Lib.hid (Box.newAt (w.alloc (.cells #[.bool false, .slice none 0 0] 99)) #[.bool false, .slice none 0 0] 99 (n := w.heap.size + 1) (by simp))
  obtain ⟨y0, y1, yf, yz⟩ := HY.out.v2
  obtain ⟨z0, z1, zf, zz⟩ := HZ.out.v2
  clear HB_0
  obtain ⟨N, hN⟩ : ∃ N, X.size = N := ⟨_, rfl⟩
  rw [hN] at HSL hs
  go_enter Tryz.func76, Tryz.ntmps76
  go_wp2_with fail
  refine (HSL.out _).mono ?_
  rintro e4 w4 ⟨rfl, rfl⟩
  go_wp2_with fail
  refine (HPA.out _).mono ?_
  rintro e5 w5 ⟨v5, rfl, hi5, hb⟩
  have HI5 := Lib.hid hi5
  clear hi5
  replace HB := Lib.hid (HB.out.trans (hb.mono HB.out.size))
  replace HY := Lib.hid (HY.out.later hb)
  replace HZ := Lib.hid (HZ.out.later hb)
  clear hb y0 y1 yf yz z0 z1 zf zz
  obtain ⟨y0, y1, yf, yz⟩ := HY.out.v2
  obtain ⟨z0, z1, zf, zz⟩ := HZ.out.v2
  go_wp2_with fail
  refine (HWH.out _).mono ?_
  rintro e6 w6 ⟨v6, rfl, hi6, hb⟩
  have HI6 := Lib.hid hi6
  replace HI5 := Lib.hid (HI5.out.later hb)
  obtain ⟨a5, n5, c5, l5, rfl, -⟩ := HI5.out
  obtain ⟨a6, n6, c6, l6, rfl, -⟩ := hi6
  replace HB := Lib.hid (HB.out.trans (hb.mono HB.out.size))
  replace HY := Lib.hid (HY.out.later hb)
  replace HZ := Lib.hid (HZ.out.later hb)
  clear hb y0 y1 yf yz z0 z1 zf zz
  obtain ⟨y0, y1, yf, yz⟩ := HY.out.v2
  obtain ⟨z0, z1, zf, zz⟩ := HZ.out.v2
  go_wp2_with fail
  refine bodyPost_ret (v := .tuple #[.agg #[.bool (decide (z < 0)), .slice a5 n5 c5], .agg #[.bool false, .slice a6 n6 c6]]) (by simp [results, Tryz.results76, go_sem, *]) rfl ?_
  have HZ2 := Lib.hid ((HZ.out.other (a := ⟨w.heap.size, 0, none⟩) (.bool (decide (z < 0))) (by simp)).other (a := ⟨w.heap.size, 1, none⟩) (.slice a5 n5 c5) (by simp))
  have HI6' := Lib.hid (show IgR w6 (.agg #[.bool false, .slice a6 n6 c6]) 1 from HI6.out)
  refine ⟨_, _, rfl, IgR.put (IgR.put HI5.out HY.out _ _) HZ2.out _ _, IgR.put (IgR.put HI6'.out HY.out _ _) HZ2.out _ _, ?_⟩
  repeat (first | with_reducible exact HB.out | with_reducible exact Below.refl _ _ | refine Below.setCell ?_ (by first | (dsimp only; omega) | (simp; done) | (simp; omega)) _ | refine Below.alloc ?_ (by first | omega | (simp; done) | (simp; omega)) _ | refine Below.drew ?_)
end Go.Proofs.YtflchbejjofppaaGreatDoor.Nu
/- Walks: the reference's quick at long whole numbers. -/
namespace Go.Proofs.YtflchbejjofppaaGreatDoor.Nu
open Go Go.Proofs Go.RowKit Go.Proofs.YtflchbejjofppaaGreatDoor
set_option maxRecDepth 100000 in
set_option maxHeartbeats 1000000 in
theorem quick137_no (w : World) (z : Int) (h1 : 1000000000 ≤ z.natAbs) (h2 : z.natAbs < 1000000000000000000) : Calls Tryz.prog 137 #[.string (txz z)] w fun e w' => e = .returned (.tuple #[.int .i64 0, .int .i64 0, .bool false]) ∧ w = w' := by
  obtain ⟨b, hb⟩ : ∃ b, Lib.decDigits z.natAbs = b := ⟨_, rfl⟩
  have hl1 : 9 < b.length := by
    rcases Nat.lt_or_ge 9 b.length with h | h
    · exact h
    · have := (dec_len_le (n := z.natAbs) (k := 9) (by decide)).1 (by rw [hb]; exact h)
      rw [show (10 : Nat) ^ 9 = 1000000000 by decide] at this
      omega
  have hl2 : b.length ≤ 18 := by
    rw [← hb]
    exact (dec_len_le (by decide)).2 (by rw [show (10 : Nat) ^ 18 = 1000000000000000000 by decide]; exact h2)
  have h0 : 0 < b.length := by omega
  have hn47 : (47 : UInt8) ∉ b := by rw [← hb]; exact fun h => absurd (dec_dig z.natAbs 47 h) (by decide)
  have HSL := Lib.hid (fun (w1 : World) => (by
    have h := slash74 w1 b (by omega)
    rw [slash_no hn47] at h
    exact h : Calls Tryz.prog 74 #[.string (tx b)] w1 fun e w' => e = .returned (.int .i64 ((b.length : Nat) : Int)) ∧ w1 = w'))
  have hsg : (z < 0 ∧ txz z = tx (45 :: b)) ∨ (0 ≤ z ∧ txz z = tx b) := by
    by_cases hn : z < 0
    · exact .inl ⟨hn, by unfold txz; rw [itoa_ng hn, hb]⟩
    · exact .inr ⟨by omega, by unfold txz; rw [itoa_nn (by omega), toNat_abs (by omega), hb]⟩
  have hsb : (tx b).size = b.length := tx_size _
  have hh0 : b.head? ≠ some 45 := by
    rw [← hb]
    intro e
    exact dec_no45 _ (List.mem_of_mem_head? e)
  have hi0 : ∀ (w : World), (Instr.index 9 (.string (tx b)) (.int .i64 0)).run Tryz.prog w = .ok (.int .u8 (b[0].toNat : Int)) w := fun w => run_idx (P := Tryz.prog) (t := 9) Tryz.underlying9 _ 0 h0 w
  have hc0 : ((b[0].toNat : Int) == 45) = false := beq_eq_false_iff_ne.2 (fun e => by
    rw [List.head?_eq_getElem?, List.getElem?_eq_getElem h0] at hh0
    exact hh0 (congrArg some (UInt8.toNat_inj.1 (by rw [show (45 : UInt8).toNat = 45 from rfl]; omega))))
  have hi1 : ∀ (w : World), (Instr.index 9 (.string (tx (45 :: b))) (.int .i64 0)).run Tryz.prog w = .ok (.int .u8 45) w := fun w => run_idx (P := Tryz.prog) (t := 9) Tryz.underlying9 (45 :: b) 0 (by simp) w
  have hx0 : (tx (45 :: b)).extract 1 (b.length + 1) = tx b := by
    rw [tx_extract]; simp
  have hs1 : (tx (45 :: b)).size = b.length + 1 := tx_size _
  generalize hTX : txz z = X at *
  clear hTX hh0 hb h1 h2 hn47
  generalize b[0].toNat = cc at *
  generalize hX1 : tx (45 :: b) = X1 at *
  generalize hB1 : tx b = B1 at *
  generalize b.length = n at *
  clear hX1 hB1
  have d1 : decide (20 < n) = false := decide_eq_false (by omega)
  have d2 : decide ((20 : Int) < (n : Int)) = false := decide_eq_false (by omega)
  have d3 : decide (20 < n + 1) = false := decide_eq_false (by omega)
  have d4 : decide ((20 : Int) < ((n + 1 : Nat) : Int)) = false := decide_eq_false (by omega)
  have d5 : decide (9 < n) = true := decide_eq_true (by omega)
  have d6 : decide ((9 : Int) < (n : Int)) = true := decide_eq_true (by omega)
  rcases hsg with ⟨hz, rfl⟩ | ⟨hz, rfl⟩
  · clear hi0 hc0
    go_enter Tryz.func137, Tryz.ntmps137
    go_wp2_with fail
    refine (HSL.out _).mono ?_
    rintro e4 w4 ⟨rfl, rfl⟩
    go_wp2_with fail
    refine bodyPost_ret (v := .tuple #[.int .i64 0, .int .i64 0, .bool false]) (by simp [results, Tryz.results137, go_sem, *]) rfl ?_
    exact ⟨rfl, rfl⟩
  · clear hi1 hx0 hs1
    go_enter Tryz.func137, Tryz.ntmps137
    go_wp2_with fail
    refine (HSL.out _).mono ?_
    rintro e4 w4 ⟨rfl, rfl⟩
    go_wp2_with fail
    refine bodyPost_ret (v := .tuple #[.int .i64 0, .int .i64 0, .bool false]) (by simp [results, Tryz.results137, go_sem, *]) rfl ?_
    exact ⟨rfl, rfl⟩
end Go.Proofs.YtflchbejjofppaaGreatDoor.Nu
/- Walks: the reference's Add, Sub, Cmp, Max at short numbers. -/
namespace Go.Proofs.YtflchbejjofppaaGreatDoor.Nu
open Go Go.Proofs Go.RowKit Go.Proofs.YtflchbejjofppaaGreatDoor
theorem qk_mul {a : Int} {d : Nat} (h1 : a.natAbs < 1000000000) (h2 : d < 1000000000) : -1000000000000000000 < a * (d : Int) ∧ a * (d : Int) < 1000000000000000000 := by
  have h3 : (a * (d : Int)).natAbs ≤ 999999999 * 999999999 := by
    rw [Int.natAbs_mul, Int.natAbs_natCast]
    exact Nat.mul_le_mul (by omega) (by omega)
  omega
set_option maxRecDepth 100000 in
set_option maxHeartbeats 4000000 in
theorem add109_quick (w : World) (p q : Rat) (hp : Qk p) (hq : Qk q) : Calls Tryz.prog 109 #[.string (txq p), .string (txq q)] w (Ret (.string (txq (p + q))) w) := by
  have HQ1 := Lib.hid (fun (w1 : World) => quick137_yes w1 p hp)
  have HQ2 := Lib.hid (fun (w1 : World) => quick137_yes w1 q hq)
  have b1 := qk_mul hp.num hq.den
  have b2 := qk_mul hq.num hp.den
  have b3 : ((p.den * q.den : Nat) : Int) < 1000000000000000000 := by
    have := Nat.mul_le_mul (show p.den ≤ 999999999 by have := hp.den; omega) (show q.den ≤ 999999999 by have := hq.den; omega)
    omega
  have b4 : 0 < p.den * q.den := Nat.mul_pos p.den_pos q.den_pos
  have HO := Lib.hid (fun (w1 : World) => (by
    have h := of138 w1 (p.num * (q.den : Int) + q.num * (p.den : Int)) (p.den * q.den) (by omega) (by omega) b4 (by omega)
    rwa [← Rat.add_def'] at h : Calls Tryz.prog 138 #[.int .i64 (p.num * (q.den : Int) + q.num * (p.den : Int)), .int .i64 ((p.den * q.den : Nat) : Int)] w1 (Ret (.string (txq (p + q))) w1)))
  obtain ⟨X, hX⟩ : ∃ X, txq p = X := ⟨_, rfl⟩
  obtain ⟨Y, hY⟩ : ∃ Y, txq q = Y := ⟨_, rfl⟩
  obtain ⟨Z, hZ⟩ : ∃ Z, txq (p + q) = Z := ⟨_, rfl⟩
  rw [hX] at HQ1
  rw [hY] at HQ2
  rw [hZ] at HO
  rw [hX, hY, hZ]
  clear hX hY hZ hp hq b4
  rw [Int.natCast_mul] at HO b3
  generalize p.num = n at *
  generalize q.num = m at *
  generalize p.den = d at *
  generalize q.den = e at *
  have b5 : 0 ≤ (d : Int) * (e : Int) := Int.mul_nonneg (by omega) (by omega)
  obtain ⟨u, hu⟩ : ∃ u, n * (e : Int) = u := ⟨_, rfl⟩
  obtain ⟨v, hv⟩ : ∃ v, m * (d : Int) = v := ⟨_, rfl⟩
  obtain ⟨t, ht⟩ : ∃ t, (d : Int) * (e : Int) = t := ⟨_, rfl⟩
  rw [hu, hv, ht] at HO
  rw [hu] at b1
  rw [hv] at b2
  rw [ht] at b3 b5
  have k1 : IntKind.i64.wrap (n * (e : Int)) = u := by rw [hu]; exact IntWalk.i64_in _ (by omega)
  have k2 : IntKind.i64.wrap (m * (d : Int)) = v := by rw [hv]; exact IntWalk.i64_in _ (by omega)
  have k3 : IntKind.i64.wrap ((d : Int) * (e : Int)) = t := by rw [ht]; exact IntWalk.i64_in _ (by omega)
  have k4 : IntKind.i64.wrap (u + v) = u + v := IntWalk.i64_in _ (by omega)
  have k5 : IntKind.i64.wrap u = u := IntWalk.i64_in _ (by omega)
  have k6 : IntKind.i64.wrap v = v := IntWalk.i64_in _ (by omega)
  have k7 : IntKind.i64.wrap t = t := IntWalk.i64_in _ (by omega)
  clear b1 b2 b3 b5
  go_enter Tryz.func109, Tryz.ntmps109
  go_wp2_with fail
  refine (HQ1.out _).mono ?_
  rintro e4 w4 ⟨rfl, rfl⟩
  go_wp2_with fail
  refine (HQ2.out _).mono ?_
  rintro e5 w5 ⟨rfl, rfl⟩
  go_wp2_with fail
  refine (HO.out _).mono ?_
  rintro e6 w6 ⟨rfl, hb⟩
  have HB := Lib.hid hb
  clear hb
  go_wp2_with fail
  go_ret
  exact ⟨rfl, HB.out⟩
def AddK (p q : Rat) : Prop := ∀ w : World, Calls Tryz.prog 109 #[.string (txq p), .string (txq q)] w (Ret (.string (txq (p + q))) w)
set_option maxRecDepth 100000 in
set_option maxHeartbeats 1000000 in
theorem rsub78 (w : World) (p q : Rat) (ha : AddK p (-q)) (hl : (ratL q).length ≤ 100000000) : Calls Tryz.prog 78 #[.string (txq p), .string (txq q)] w (Ret (.string (txq (p - q))) w) := by
  have HN := Lib.hid (fun (w1 : World) => rneg110 w1 q hl)
  have HA := Lib.hid ha
  unfold AddK at HA
  rw [show p + -q = p - q by grind] at HA
  generalize txq p = X at *
  generalize txq q = Y at *
  generalize txq (-q) = Z at *
  generalize txq (p - q) = R at *
  clear ha hl
  go_enter Tryz.func78, Tryz.ntmps78
  go_wp2_with fail
  refine (HN.out _).mono ?_
  rintro e4 w4 ⟨rfl, rfl⟩
  go_wp2_with fail
  refine (HA.out _).mono ?_
  rintro e5 w5 ⟨rfl, hb⟩
  have HB := Lib.hid hb
  clear hb
  go_wp2_with fail
  go_ret
  exact ⟨rfl, HB.out⟩
set_option maxRecDepth 100000 in
set_option maxHeartbeats 1000000 in
theorem rcmp46 (w : World) (p q : Rat) (ha : AddK p (-q)) (hl : (ratL q).length ≤ 100000000) (hl2 : (ratL (p - q)).length ≤ 100000000) : Calls Tryz.prog 46 #[.string (txq p), .string (txq q)] w (Ret (.int .i64 (p - q).num.sign) w) := by
  have HS := Lib.hid (fun (w1 : World) => rsub78 w1 p q ha hl)
  have HG := Lib.hid (fun (w1 : World) => rsign26 w1 (p - q) (by omega))
  generalize txq p = X at *
  generalize txq q = Y at *
  generalize txq (p - q) = R at *
  generalize (p - q).num.sign = s at *
  clear ha hl hl2
  go_enter Tryz.func46, Tryz.ntmps46
  go_wp2_with fail
  refine (HS.out _).mono ?_
  rintro e4 w4 ⟨rfl, hb⟩
  have HB := Lib.hid hb
  clear hb
  go_wp2_with fail
  refine (HG.out _).mono ?_
  rintro e5 w5 ⟨rfl, rfl⟩
  go_wp2_with fail
  go_ret
  exact ⟨rfl, HB.out⟩
theorem ratL_len_int {z : Int} (h : z.natAbs < 1000000000000000000) : (ratL (z : Rat)).length ≤ 100 := by
  rw [ratL_int]
  have := itoa_len_le (k := 18) (by decide) (show z.natAbs < 10 ^ 18 by rw [show (10 : Nat) ^ 18 = 1000000000000000000 by decide]; exact h)
  omega
theorem int_sub_rat (a b : Int) : (a : Rat) - (b : Rat) = ((a - b : Int) : Rat) := by rw [Rat.intCast_sub]
theorem zcmp46 (w : World) (a b : Int) (ha : AddK (a : Rat) ((-b : Int) : Rat)) (h1 : a.natAbs < 400000000000000000) (h2 : b.natAbs < 400000000000000000) : Calls Tryz.prog 46 #[.string (txz a), .string (txz b)] w (Ret (.int .i64 (a - b).sign) w) := by
  have h := rcmp46 w (a : Rat) (b : Rat) (by rw [← Rat.intCast_neg]; exact ha) (by have := ratL_len_int (z := b) (by omega); omega) (by rw [int_sub_rat]; have := ratL_len_int (z := a - b) (by omega); omega)
  rwa [txq_int, txq_int, int_sub_rat, Rat.num_intCast] at h
theorem qk_int {z : Int} (h : z.natAbs < 1000000000) : Qk (z : Rat) := ⟨by rw [Rat.num_intCast]; exact h, by rw [Rat.den_intCast]; decide⟩
end Go.Proofs.YtflchbejjofppaaGreatDoor.Nu
