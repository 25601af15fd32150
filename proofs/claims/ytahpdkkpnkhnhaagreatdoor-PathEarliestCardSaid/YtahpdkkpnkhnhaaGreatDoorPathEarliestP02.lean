/- Lemmas on the way to the law PathEarliest (part 2): Sf Sg Sh -/
import Derived.Test.YtahpdkkpnkhnhaaGreatDoorPathEarliestP01
set_option linter.unusedVariables false
set_option linter.unusedSimpArgs false

/- Walks: CheckSchedule. -/
namespace Go.Proofs.YtahpdkkpnkhnhaaGreatDoor
open Go Go.Proofs Go.RowKit Go.Shelf
def schE (p : Pl) (ts : List Tk) (st : List Int) : Int := if ckTasks p ts ≠ 0 then ckTasks p ts else ckSch p ts st
def lenVal : Value → Value
  | .slice _ n _ => .int .i64 n
  | _ => undef
theorem bar_hit {p : Pl} {t o : Tk} (ht : t.path.Nodup) (ho : o.path.Nodup) {so s : Int} {L : List Ar} (hL : L.Perm (barO (useF p t.run 0 t.path) (useF p o.run 0 o.path) so o.path)) : meetB p o t so s = true ↔ ∃ x ∈ L, x.fr ≤ s ∧ s ≤ x.to := by
  rw [hit_iff ht ho]
  exact ⟨fun ⟨x, h1, h2⟩ => ⟨x, hL.mem_iff.2 h1, h2⟩, fun ⟨x, h1, h2⟩ => ⟨x, hL.mem_iff.1 h1, h2⟩⟩
set_option maxRecDepth 100000 in
set_option maxHeartbeats 4000000 in
theorem checkSchedule55 (w : World) (v1 v2 u x : Value) (p : Pl) (ts : List Tk) (st : List Int) (hw : WdR w) (hv : PlR w w.heap.size v1 v2 p) (hu : TasksR w w.heap.size u ts) (hs : SzT ts) (hx : Sl encI 1 w w.heap.size x st) :
    Calls Tryz.prog 55 #[.agg #[v1, v2], u, x] w (Ret (.int .i64 (schE p ts st)) w) := by
  have HCT := Lib.hid (fun (w1 : World) (hb : Below w.heap.size w w1) => checkTasks53 w1 _ _ _ p ts (hw.later hb) (hv.later hb) (hu.later hb) hs)
  have HBR := Lib.hid (fun (w1 : World) (hb : Below w.heap.size w w1) (hp : OkP p) t o s u1 u2 (h1 : Sl encI 1 w w.heap.size u1 t.path) (h2 : Sl encI 1 w w.heap.size u2 o.path) (h3 : OkT p t) (h4 : OkT p o) hs => barred114 w1 v1 v2 u1 u2 p t o s (hv.later hb) (h1.later hb) (h2.later hb) hp h3 h4 hs (by have := h3.len; have := hp.le; omega) (by have := h4.len; have := hp.le; omega))
  obtain ⟨R, hR⟩ : ∃ R, schE p ts st = R := ⟨_, rfl⟩
  rw [hR]
  unfold schE at hR
  have HSK := Lib.hid (schK p ts st)
  obtain ⟨uu, cu, rfl, hlu, hU⟩ := hu
  obtain ⟨xx, cx, rfl, hlx, hXX⟩ := hx
  have HU := Lib.hid (show 0 < ts.length → ∃ b off, uu = some ⟨b, off, none⟩ ∧ b < w.heap.size ∧ ∀ i, i < ts.length → ∃ au cu, At w b (off + i * 3) [.slice au (ts.getD i tk0).path.length cu, .string (ts.getD i tk0).grain, .int .i64 (ts.getD i tk0).run] ∧ Sl encI 1 w w.heap.size (.slice au (ts.getD i tk0).path.length cu) (ts.getD i tk0).path from fun h0 => by
    obtain ⟨b, off, e, hb, hc⟩ := hU h0
    refine ⟨b, off, e, hb, fun i hi => ?_⟩
    rw [tkGet hi]; exact hc i hi)
  have HXX := Lib.hid (show 0 < st.length → ∃ b off, xx = some ⟨b, off, none⟩ ∧ b < w.heap.size ∧ ∀ i, i < st.length → w.cell? ⟨b, off + i, none⟩ = some (.int .i64 (st.getD i 0)) from fun h0 => by
    obtain ⟨b, off, e, hb, hc⟩ := hXX h0
    refine ⟨b, off, e, hb, fun i hi => ?_⟩
    have := (hc i hi).c1
    rw [Nat.mul_one] at this
    rw [getD_geI hi]; exact this)
  obtain ⟨a1, n1, a2, n2, rfl, rfl⟩ := hv.agg
  have HCK := Lib.hid (fun h : ckTasks p ts = 0 => ckTasks_ok h)
  clear hU hXX hv hw
  obtain ⟨cs, hcs⟩ : ∃ c, ckSch p ts st = c := ⟨_, rfl⟩
  obtain ⟨ct, hct⟩ : ∃ c, ckTasks p ts = c := ⟨_, rfl⟩
  rw [hcs] at hR HSK
  rw [hct] at hR HCT HCK
  clear hcs hct
  have HB := Lib.hid ((Below.refl w.heap.size w).alloc (Nat.le_refl _) (.cells #[.slice a1 p.ms.length n1, .slice a2 p.arcs.length n2] 25))
  have HX := Lib.hid (Box.new w #[.slice a1 p.ms.length n1, .slice a2 p.arcs.length n2] 25)
  obtain ⟨n, hn⟩ : ∃ n, p.ms.length = n := ⟨_, rfl⟩
  obtain ⟨m, hm⟩ : ∃ n, p.arcs.length = n := ⟨_, rfl⟩
  obtain ⟨nt, hnt⟩ : ∃ n, ts.length = n := ⟨_, rfl⟩
  obtain ⟨ns, hns⟩ : ∃ n, st.length = n := ⟨_, rfl⟩
  rw [hn] at HB HX HBR HCT ⊢
  rw [hm] at HB HX HBR HCT ⊢
  have HNT := Lib.hid hnt
  have HNS := Lib.hid hns
  rw [hnt] at HU HCT hlu ⊢
  rw [hns] at HXX hlx ⊢
  clear hn hm hnt hns
  obtain ⟨W1, hW1⟩ : ∃ W, w.alloc (.cells #[.slice a1 n n1, .slice a2 m n2] 25) = W := ⟨_, rfl⟩
  rw [hW1] at HB HX
  obtain ⟨x0, x1, xf, xz⟩ := HX.out.v2
  have HR := Lib.hid hR
  clear hR
  go_enter Tryz.func55, Tryz.ntmps55
  go_wp2_with fail
  try rw [hW1]
  clear hW1
  refine (HCT.out _ HB.out).mono ?_
  rintro e w2 ⟨rfl, hb2⟩
  have HB2 := Lib.hid (HB.out.trans (hb2.mono HB.out.size))
  have HX2 := Lib.hid (HX.out.later hb2)
  clear x0 x1 xf xz hb2 HB HX
  by_cases h0 : ct = 0
  rotate_left
  · have k0 : (ct != 0) = true := by simpa using h0
    have HV := Lib.hid (show ct = R by rw [← HR.out, if_pos h0])
    go_wp2_with fail
    go_ret
    exact ⟨by rw [HV.out]; rfl, HB2.out⟩
  subst h0
  have HV := Lib.hid (show cs = R by rw [← HR.out, if_neg (show ¬ (0 : Int) ≠ 0 by simp)])
  obtain ⟨hp, h16, hck⟩ := HCK.out rfl
  have HTK := Lib.hid (show ∀ k, k < nt → OkT p (ts.getD k tk0) from fun k hk => by rw [tkGet (by rw [HNT.out]; exact hk)]; exact (ckTk_ok (hck _ (List.getElem_mem _))).1)
  rw [HNT.out] at h16
  have HP := Lib.hid hp
  obtain rfl := HV.out
  clear HV HR hck hp HCK HCT
  by_cases hne : ns = nt
  rotate_left
  · have hq : ((ns : Int) != (nt : Int)) = true := by simpa using (show ¬ ((ns : Int) = (nt : Int)) by omega)
    have HV := Lib.hid (HSK.out.ne (by rw [HNT.out, HNS.out]; exact hne))
    go_wp2_with fail
    go_ret
    exact ⟨by rw [HV.out]; rfl, HB2.out⟩
  subst hne
  have HEQ := Lib.hid (show st.length = ts.length by rw [HNT.out, HNS.out])
  go_wp2_with fail
  go_loopw [29] (fun i wr => ∃ k : Nat, k ≤ ns ∧ i = .int .i64 k ∧ w2 = wr ∧ ∀ j, j < k → badS (st.getD j 0) = false) (fun i _ => ns - (intOf i).toNat)
  case atStart => exact ⟨0, by omega, rfl, rfl, fun j h => absurd h (Nat.not_lt_zero _)⟩
  case round =>
    obtain ⟨k, hk, rfl, rfl, hno⟩ := hrel
    have HNO := Lib.hid hno
    clear hno
    by_cases hlt : k < ns
    · obtain ⟨bX, oX, eX, hbX, hcX⟩ := HXX.out (by omega)
      subst eX
      have c0 := (HB2.out.cell (p := ⟨bX, oX + k, none⟩) hbX).trans (hcX k hlt)
      have hbXz : bX < w2.heap.size := Nat.lt_of_lt_of_le hbX HB2.out.size
      have HMS := Lib.hid (show st.getD k 0 ∈ st from getD_mem0 (by rw [HNS.out]; exact hlt))
      obtain ⟨s, hs⟩ : ∃ s, st.getD k 0 = s := ⟨_, rfl⟩
      have HSS := Lib.hid hs
      rw [hs] at c0 HMS
      clear hs
      have HBA := Lib.hid (show badS s = (decide (s < 0) || decide (999999999 < s)) from rfl)
      cases h1 : decide (s < 0) with
      | true =>
        have HV := Lib.hid (HSK.out.bad HEQ.out s HMS.out (by rw [HBA.out, h1]; rfl))
        go_wp2_with fail
        go_ret
        exact ⟨by rw [HV.out]; rfl, HB2.out⟩
      | false =>
        cases h2 : decide (999999999 < s) with
        | true =>
          have HV := Lib.hid (HSK.out.bad HEQ.out s HMS.out (by rw [HBA.out, h2, Bool.or_true]))
          go_wp2_with fail
          go_ret
          exact ⟨by rw [HV.out]; rfl, HB2.out⟩
        | false =>
          have HNN := Lib.hid (show ∀ j, j < k + 1 → badS (st.getD j 0) = false from fun j hj => by
            rcases Nat.lt_succ_iff_lt_or_eq.1 hj with h | h
            · exact HNO.out j h
            · subst h; rw [HSS.out, HBA.out, h1, h2]; rfl)
          go_wp2_with fail
          go_roundw
          case rel => exact ⟨k + 1, by omega, by go_num, by first | rfl | trivial, HNN.out⟩
          case measure => simp [intOf]; omega
    obtain rfl : ns = k := by omega
    have HAL := Lib.hid (show ∀ s ∈ st, badS s = false from fun s hs => by
      obtain ⟨j, hj, rfl⟩ := List.mem_iff_getElem.1 hs
      have := HNO.out j (by rw [← HNS.out]; exact hj)
      rw [getD_geI hj] at this; exact this)
    have HBD := Lib.hid (fun j (hj : j < ns) => badS_of (HNO.out j hj))
    clear HNO
    go_wp2_with fail
    go_loopw [42] (fun i wr => ∃ k : Nat, k ≤ ns ∧ i = .int .i64 k ∧ Below w2.heap.size w2 wr ∧ ∀ i' k', i' < k → k' < i' → meetB p (ts.getD k' tk0) (ts.getD i' tk0) (st.getD k' 0) (st.getD i' 0) = false) (fun i _ => ns - (intOf i).toNat)
    case atStart => exact ⟨0, by omega, rfl, Below.refl _ _, fun _ _ h => absurd h (Nat.not_lt_zero _)⟩
    case round =>
      obtain ⟨i, hi, rfl, hbe, hno⟩ := hrel
      have HB1 := Lib.hid hbe
      have HBW1 := Lib.hid (HB2.out.trans (hbe.mono HB2.out.size))
      have HNO := Lib.hid hno
      clear hno hbe
      by_cases hlt : i < ns
      rotate_left
      · obtain rfl : ns = i := by omega
        have HV := Lib.hid (HSK.out.ok HEQ.out HAL.out (fun i' k' h1 h2 => HNO.out i' k' (by rw [← HNT.out]; exact h1) h2))
        go_wp2_with fail
        go_ret
        exact ⟨by rw [HV.out]; rfl, HBW1.out⟩
      obtain ⟨bX, oX, eX, hbX, hcX⟩ := HXX.out (by omega)
      subst eX
      obtain ⟨bT, oT, eT, hbT, hcT⟩ := HU.out (by omega)
      subst eT
      obtain ⟨hi1, hi2⟩ := HBD.out i hlt
      obtain ⟨ai, cui, HTi, HSi⟩ := hcT i hlt
      have HTI := Lib.hid HTi
      have HSI := Lib.hid HSi
      obtain ⟨s0, s1, s2⟩ := (HTi.below HBW1.out hbT).c3
      have hbTz : bT < wr.heap.size := Nat.lt_of_lt_of_le hbT HBW1.out.size
      have hin : (i : Int) < (ns : Int) := by omega
      obtain ⟨ti, hti⟩ : ∃ t, ts.getD i tk0 = t := ⟨_, rfl⟩
      have HTI2 := Lib.hid hti
      rw [hti] at s0 s1 s2 HSI
      clear hti HTi HSi HTI
      obtain ⟨li, hli⟩ : ∃ n, ti.path.length = n := ⟨_, rfl⟩
      rw [hli] at s0 HSI
      clear hli
      have hci : (i : Int) ≤ (cu : Int) := by omega
      generalize wr = W2 at *
      have hb3 : Below W2.heap.size W2 (W2.alloc (.cells #[.slice ai li cui, .string ti.grain, .int .i64 ti.run] 114)) := (Below.refl _ _).alloc (Nat.le_refl _) _
      have HB3 := Lib.hid (HB1.out.trans (hb3.mono HB1.out.size))
      have HBW3 := Lib.hid (HBW1.out.trans (hb3.mono HBW1.out.size))
      have HT3 := Lib.hid (Box.new W2 #[.slice ai li cui, .string ti.grain, .int .i64 ti.run] 114)
      clear hb3
      go_wp2_with fail
      obtain ⟨W3, hW3⟩ : ∃ W, W2.alloc (.cells #[.slice ai li cui, .string ti.grain, .int .i64 ti.run] 114) = W := ⟨_, rfl⟩
      have HZ3 := Lib.hid (show W2.heap.size < W3.heap.size by rw [← hW3]; simp)
      rw [hW3] at HB3 HBW3 HT3 ⊢
      clear hW3 s0 s1 s2 hbTz
      go_loopw [51] (fun j wr => ∃ k : Nat, k ≤ i ∧ j = .int .i64 k ∧ Below W3.heap.size W3 wr ∧ ∀ k', k' < k → meetB p (ts.getD k' tk0) (ts.getD i tk0) (st.getD k' 0) (st.getD i 0) = false) (fun j _ => i - (intOf j).toNat)
      case atStart => exact ⟨0, by omega, rfl, Below.refl _ _, fun _ h => absurd h (Nat.not_lt_zero _)⟩
      case round =>
        obtain ⟨k, hk, rfl, hbe, hnk⟩ := hrel
        have HB4 := Lib.hid hbe
        have HB24 := Lib.hid (HB3.out.trans (hbe.mono HB3.out.size))
        have HBW4 := Lib.hid (HBW3.out.trans (hbe.mono HBW3.out.size))
        have HT4 := Lib.hid (HT3.out.later hbe)
        have HX4 := Lib.hid (HX2.out.later HB24.out)
        have HNK := Lib.hid hnk
        clear hnk hbe
        by_cases hltk : k < i
        rotate_left
        · obtain rfl : i = k := by omega
          have HNN := Lib.hid (show ∀ i' k', i' < i + 1 → k' < i' → meetB p (ts.getD k' tk0) (ts.getD i' tk0) (st.getD k' 0) (st.getD i' 0) = false from fun i' k' h1 h2 => by
            rcases Nat.lt_succ_iff_lt_or_eq.1 h1 with h | h
            · exact HNO.out i' k' h h2
            · subst h; exact HNK.out k' h2)
          go_wp2_with fail
          go_roundw
          case rel => exact ⟨i + 1, by omega, by go_num, HB24.out, HNN.out⟩
          case measure => simp [intOf]; omega
        obtain ⟨hk1, hk2⟩ := HBD.out k (by omega)
        obtain ⟨ak, cuk, HTk, HSk⟩ := hcT k (by omega)
        obtain ⟨t0, t1, t2⟩ := (HTk.below HBW4.out hbT).c3
        have hbTz : bT < wr.heap.size := Nat.lt_of_lt_of_le hbT HBW4.out.size
        have HMT := Lib.hid (fun h => HSK.out.met HEQ.out HAL.out i k (by rw [HNT.out]; exact hlt) hltk h)
        have HNF := Lib.hid (show meetB p (ts.getD k tk0) (ts.getD i tk0) (st.getD k 0) (st.getD i 0) = false → ∀ k', k' < k + 1 → meetB p (ts.getD k' tk0) (ts.getD i tk0) (st.getD k' 0) (st.getD i 0) = false from fun h k' h1 => by
          rcases Nat.lt_succ_iff_lt_or_eq.1 h1 with h2 | h2
          · exact HNK.out k' h2
          · subst h2; exact h)
        have HOK := Lib.hid (HTK.out k (by omega))
        have HOI := Lib.hid (HTK.out i hlt)
        rw [HTI2.out] at HMT HNF HOI
        obtain ⟨tk, htk⟩ : ∃ t, ts.getD k tk0 = t := ⟨_, rfl⟩
        obtain ⟨sk, hsk⟩ : ∃ t, st.getD k 0 = t := ⟨_, rfl⟩
        obtain ⟨si, hsi⟩ : ∃ t, st.getD i 0 = t := ⟨_, rfl⟩
        have HSKE := Lib.hid hsk
        have HSIE := Lib.hid hsi
        rw [htk] at t0 t1 t2 HSk HMT HNF HOK
        rw [hsk] at HMT HNF hk1 hk2
        rw [hsi] at HMT HNF
        have HSK2 := Lib.hid HSk
        clear htk hsk hsi HTk HSk
        obtain ⟨lk, hlk⟩ : ∃ n, tk.path.length = n := ⟨_, rfl⟩
        rw [hlk] at t0 HSK2
        clear hlk
        have hb5 : Below wr.heap.size wr (wr.alloc (.cells #[.slice ak lk cuk, .string tk.grain, .int .i64 tk.run] 114)) := (Below.refl _ _).alloc (Nat.le_refl _) _
        have HB5 := Lib.hid (HB4.out.trans (hb5.mono HB4.out.size))
        have HBW5 := Lib.hid (HBW4.out.trans (hb5.mono HBW4.out.size))
        have HT5 := Lib.hid (HT4.out.later hb5)
        have HX5 := Lib.hid (HX4.out.later hb5)
        have HK5 := Lib.hid (Box.new wr #[.slice ak lk cuk, .string tk.grain, .int .i64 tk.run] 114)
        have hki : (k : Int) < (i : Int) := by omega
        clear hb5
        go_wp2_with fail
        obtain ⟨W5, hW5⟩ : ∃ W, wr.alloc (.cells #[.slice ak lk cuk, .string tk.grain, .int .i64 tk.run] 114) = W := ⟨_, rfl⟩
        obtain ⟨g5, hg5⟩ : ∃ W, wr.heap.size = W := ⟨_, rfl⟩
        rw [hW5] at HB5 HBW5 HT5 HX5 HK5 ⊢
        rw [hg5] at HK5 ⊢
        clear hW5 hg5 t0 t1 t2 hbTz
        obtain ⟨x0, x1, xf, xz⟩ := HX5.out.v2
        obtain ⟨y0, y1, y2, yf, yz⟩ := HT5.out.t3
        obtain ⟨z0, z1, z2, zf, zz⟩ := HK5.out.t3
        have o0 := (HBW5.out.cell (p := ⟨bX, oX + k, none⟩) hbX).trans (hcX k (by omega))
        rw [HSKE.out] at o0
        have hbXz : bX < W5.heap.size := Nat.lt_of_lt_of_le hbX HBW5.out.size
        have hkn : (k : Int) < (ns : Int) := by omega
        refine wp_region_partG 7 (fun i => i == 8) _ (fun v W' => ∃ L, Own Ar.enc 2 123 W' W5.heap.size v L ∧ L.Perm (barO (useF p ti.run 0 ti.path) (useF p tk.run 0 tk.path) sk tk.path)) (fun A v => (A.put (some 63) v).put (some 64) (lenVal v)) (by kernel_rfl) (by kernel_rfl) rfl (fun v u u' h hb => by obtain ⟨L, h1, h2⟩ := h; exact ⟨L, h1.later hb, h2⟩) ?_
        apply Exists.intro
        refine ⟨fun Y => ?_, fun wa hwa => ?_, fun v wa hwa hD => ?_, fun v w6 hb6 hD => ?_⟩
        · simp only [selF, Nat.reduceBEq, Bool.not_true, Bool.not_false, Bool.and_true, Bool.and_false, Bool.false_eq_true, if_true, if_false, Nat.reduceAdd, Nat.zero_add]
          repeat go_big_quiet_step (fail)
          exact wpQuiet_nil rfl
        · have hbw := HBW5.out.trans (hwa.mono HBW5.out.size)
          refine ⟨114, _, ?_, (HBR.out wa hbw HP.out ti tk sk _ _ HSI.out HSK2.out HOI.out HOK.out (by omega)).mono ?_⟩
          · go_simp
            first | done | rfl
          · rintro e w6 ⟨v6, L, rfl, ho6, hpm6, hb6⟩
            exact ⟨v6, rfl, ⟨L, ho6.lower hwa.size, hpm6⟩, hb6⟩
        · obtain ⟨L, ho6, _⟩ := hD
          obtain ⟨a6, c6, e6⟩ := ho6.shape
          subst e6
          simp only [selF, Nat.reduceBEq, Bool.not_true, Bool.not_false, Bool.and_true, Bool.and_false, Bool.false_eq_true, if_true, if_false, Nat.reduceAdd, Nat.zero_add, Act.put, List.setIfInBounds_toArray, List.set_cons_succ, List.set_cons_zero]
          repeat go_big_quiet_step (fail)
          exact wpQuiet_nil rfl
        obtain ⟨L, ho6, hpm6⟩ := hD
        obtain ⟨a6, c6, e6⟩ := ho6.shape
        subst e6
        simp only [Act.put, lenVal, List.setIfInBounds_toArray, List.set_cons_succ, List.set_cons_zero]
        have HB6 := Lib.hid (HB5.out.trans (hb6.mono HB5.out.size))
        have HBW6 := Lib.hid (HBW5.out.trans (hb6.mono HBW5.out.size))
        have HLB := Lib.hid (show L.length ≤ 64 by rw [hpm6.length_eq]; exact Nat.le_trans (barO_len _ _ _ _) (Nat.le_trans HOK.out.len HP.out.le))
        have HSL := Lib.hid (ho6.toSl Ar.enc_len (by have := HLB.out; omega))
        have HHI := Lib.hid (bar_hit (p := p) (s := si) HOI.out.nd HOK.out.nd hpm6)
        obtain ⟨nl, hnl⟩ : ∃ n, L.length = n := ⟨_, rfl⟩
        have HNL := Lib.hid hnl
        have hlb := HLB.out
        rw [hnl] at HSL hlb ⊢
        clear hnl hb6 ho6 hpm6 x0 x1 xf xz y0 y1 y2 yf yz z0 z1 z2 zf zz o0 hbXz
        go_wp2_with fail
        go_loopw [65] (fun j wr => ∃ q : Nat, q ≤ nl ∧ j = .int .i64 q ∧ Below w6.heap.size w6 wr ∧ ∀ j' (h : j' < L.length), j' < q → ¬ (L[j'].fr ≤ si ∧ si ≤ L[j'].to)) (fun j _ => nl - (intOf j).toNat)
        case atStart => exact ⟨0, by omega, rfl, Below.refl _ _, fun _ _ h => absurd h (Nat.not_lt_zero _)⟩
        case round =>
          obtain ⟨q, hq, rfl, hbe, hno⟩ := hrel
          have HB7 := Lib.hid hbe
          have HB37 := Lib.hid (HB6.out.trans (hbe.mono HB6.out.size))
          have HBW7 := Lib.hid (HBW6.out.trans (hbe.mono HBW6.out.size))
          have HNX := Lib.hid hno
          clear hbe hno
          by_cases hql : q < nl
          rotate_left
          · obtain rfl : nl = q := by omega
            have HMF := Lib.hid (show meetB p tk ti sk si = false by
              cases h : meetB p tk ti sk si with
              | false => rfl
              | true =>
                obtain ⟨x, hx, h2⟩ := HHI.out.1 h
                obtain ⟨j', hj, rfl⟩ := List.mem_iff_getElem.1 hx
                exact absurd h2 (HNX.out j' hj (by rw [← HNL.out]; exact hj)))
            have HNG := Lib.hid (by have h := HNF.out HMF.out; rw [← HTI2.out, ← HSIE.out] at h; exact h)
            go_wp2_with fail
            go_roundw
            case rel => exact ⟨k + 1, by omega, by go_num, HB37.out, HNG.out⟩
            case measure => simp [intOf]; omega
          obtain ⟨a9, c9, e9, hc9, hA9⟩ := id HSL.out
          rw [HNL.out] at e9
          cases e9
          obtain ⟨b9, o9, e9, hb9, hat9⟩ := hA9 (by rw [HNL.out]; omega)
          subst e9
          have hqL : q < L.length := by rw [HNL.out]; exact hql
          obtain ⟨g0, g1⟩ := ((hat9 q hqL).below HB7.out hb9).c2
          have hb9z : b9 < wr.heap.size := Nat.lt_of_lt_of_le hb9 HB7.out.size
          have HMX := Lib.hid (List.getElem_mem hqL)
          have HNY := Lib.hid (show ¬ (L[q].fr ≤ si ∧ si ≤ L[q].to) → ∀ j' (h : j' < L.length), j' < q + 1 → ¬ (L[j'].fr ≤ si ∧ si ≤ L[j'].to) from fun h j' hj hjq => by
            rcases Nat.lt_succ_iff_lt_or_eq.1 hjq with h2 | h2
            · exact HNX.out j' hj h2
            · subst h2; exact h)
          clear hat9 hA9 hc9
          generalize L[q] = xq at *
          obtain ⟨xa, xb⟩ := xq
          dsimp only [Ar.enc] at g0 g1 HNY HMX
          have hb8 : Below wr.heap.size wr (wr.alloc (.cells #[.int .i64 xa, .int .i64 xb] 123)) := (Below.refl _ _).alloc (Nat.le_refl _) _
          have HB8 := Lib.hid (HB7.out.trans (hb8.mono HB7.out.size))
          have HBW8 := Lib.hid (HBW7.out.trans (hb8.mono HBW7.out.size))
          have HX8 := Lib.hid (Box.new wr #[.int .i64 xa, .int .i64 xb] 123)
          have o0 := (HBW8.out.cell (p := ⟨bX, oX + i, none⟩) hbX).trans (hcX i hlt)
          rw [HSIE.out] at o0
          have hbXz : bX < (wr.alloc (.cells #[.int .i64 xa, .int .i64 xb] 123)).heap.size := Nat.lt_of_lt_of_le hbX HBW8.out.size
          obtain ⟨W8, hW8⟩ : ∃ W, wr.alloc (.cells #[.int .i64 xa, .int .i64 xb] 123) = W := ⟨_, rfl⟩
          rw [hW8] at HB8 HBW8 HX8 o0 hbXz
          obtain ⟨x0, x1, xf, xz⟩ := HX8.out.v2
          clear hb8
          cases hd1 : decide (xa ≤ si) with
          | false =>
            have HNZ := Lib.hid (HNY.out (fun h => by rw [decide_eq_true h.1] at hd1; cases hd1))
            go_wp2_with fail
            try rw [hW8]
            clear hW8
            refine wp_region_later (by kernel_rfl) (by kernel_rfl) ?_
            repeat go_big_quiet_step (fail)
            refine wpQuiet_nil ?_
            rintro wz ⟨⟨_, hbz⟩, rfl⟩
            have HBZ := Lib.hid (HB8.out.trans (hbz.mono HB8.out.size))
            clear hbz
            go_wp2_with fail
            go_roundw
            case rel => exact ⟨q + 1, by omega, by go_num, HBZ.out, HNZ.out⟩
            case measure => simp [intOf]; omega
          | true =>
            cases hd2 : decide (si ≤ xb) with
            | false =>
              have HNZ := Lib.hid (HNY.out (fun h => by rw [decide_eq_true h.2] at hd2; cases hd2))
              go_wp2_with fail
              try rw [hW8]
              clear hW8
              refine wp_region_later (by kernel_rfl) (by kernel_rfl) ?_
              repeat go_big_quiet_step (fail)
              refine wpQuiet_nil ?_
              rintro wz ⟨⟨_, hbz⟩, rfl⟩
              have HBZ := Lib.hid (HB8.out.trans (hbz.mono HB8.out.size))
              clear hbz
              go_wp2_with fail
              go_roundw
              case rel => exact ⟨q + 1, by omega, by go_num, HBZ.out, HNZ.out⟩
              case measure => simp [intOf]; omega
            | true =>
              have HV := Lib.hid (HMT.out (HHI.out.2 ⟨_, HMX.out, of_decide_eq_true hd1, of_decide_eq_true hd2⟩))
              go_wp2_with fail
              try rw [hW8]
              clear hW8
              refine wp_region_later (by kernel_rfl) (by kernel_rfl) ?_
              repeat go_big_quiet_step (fail)
              refine wpQuiet_nil ?_
              rintro wz ⟨⟨_, hbz⟩, rfl⟩
              have HBZ := Lib.hid (HBW8.out.trans (hbz.mono HBW8.out.size))
              clear hbz
              go_wp2_with fail
              go_ret
              exact ⟨by rw [HV.out]; rfl, HBZ.out⟩
end Go.Proofs.YtahpdkkpnkhnhaaGreatDoor
/- Walks: CheckTasks of the reference. -/
namespace Go.Proofs.YtahpdkkpnkhnhaaGreatDoor
open Go Go.Proofs Go.RowKit Go.Shelf
def TsAt (w : World) (B : Nat) (uu : Option Addr) (n : Nat) (ts : List Tk) : Prop :=
  0 < n → ∃ b off, uu = some ⟨b, off, none⟩ ∧ b < B ∧ ∀ i, i < n → ∃ au cu, At w b (off + i * 3) [.slice au (ts.getD i tk0).path.length cu, .string (ts.getD i tk0).grain, .int .i64 (ts.getD i tk0).run] ∧ Sl encI 1 w B (.slice au (ts.getD i tk0).path.length cu) (ts.getD i tk0).path
theorem TasksR.open_ {w : World} {B : Nat} {u : Value} {ts : List Tk} (h : TasksR w B u ts) : ∃ uu cu, u = .slice uu ts.length cu ∧ ts.length ≤ 1000000000 ∧ ts.length ≤ cu ∧ TsAt w B uu ts.length ts := by
  obtain ⟨uu, cu, e, hl, hU⟩ := h
  refine ⟨uu, cu, e, hl.1, hl.2, fun h0 => ?_⟩
  obtain ⟨b, off, e, hb, hc⟩ := hU h0
  refine ⟨b, off, e, hb, fun i hi => ?_⟩
  rw [tkGet hi]; exact hc i hi
set_option maxRecDepth 100000 in
set_option maxHeartbeats 1000000 in
theorem checkTasks52 (w : World) (v1 v2 u : Value) (p : Pl) (ts : List Tk) (hv : PlR w w.heap.size v1 v2 p) (hu : TasksR w w.heap.size u ts) (hs : SzT ts) : Calls Tryz.prog 52 #[.agg #[v1, v2], u] w (Ret (.int .i64 (ckTasks p ts)) w) := by
  have HCP := Lib.hid (fun (w1 : World) (hb : Below w.heap.size w w1) => ckPlant19 w1 _ _ p (hv.later hb))
  have HCK := Lib.hid (fun (w1 : World) (hb : Below w.heap.size w w1) (v : Value) (l : List Int) (hl : Sl encI 1 w w.heap.size v l) => checkPath22 w1 _ _ v p l (hv.later hb) (hl.later hb))
  have HSZ := Lib.hid (fun i (hi : i < ts.length) => show (ts.getD i tk0).grain.size ≤ 9223372036854775807 by rw [tkGet hi]; exact hs _ (List.getElem_mem hi))
  obtain ⟨uu, cu, rfl, hlu, hlc, hU⟩ := hu.open_
  have HU := Lib.hid hU
  have HDR := Lib.hid (fun k (h : k < ts.length) => show ckTkL p (ts.drop k) = if ckTk p (ts.getD k tk0) ≠ 0 then ckTk p (ts.getD k tk0) else ckTkL p (ts.drop (k + 1)) by rw [tkGet h]; exact ckTkL_drop p ts k h)
  have HTK := Lib.hid (fun t : Tk => show ckTk p t = if pathE p t.path ≠ 0 then pathE p t.path else if isName t.grain = false then 8 else if t.run < 1 ∨ 100000 < t.run then 3 else 0 from rfl)
  obtain ⟨a1, n1, a2, n2, rfl, rfl⟩ := hv.agg
  obtain ⟨R, hR⟩ : ∃ R, ckTasks p ts = R := ⟨_, rfl⟩
  rw [hR]
  unfold ckTasks at hR
  have HR := Lib.hid hR
  clear hR hv hu hU hs
  have HB := Lib.hid ((Below.refl w.heap.size w).alloc (Nat.le_refl _) (.cells #[.slice a1 p.ms.length n1, .slice a2 p.arcs.length n2] 25))
  have HX := Lib.hid (Box.new w #[.slice a1 p.ms.length n1, .slice a2 p.arcs.length n2] 25)
  obtain ⟨n, hn⟩ : ∃ n, p.ms.length = n := ⟨_, rfl⟩
  obtain ⟨m, hm⟩ : ∃ n, p.arcs.length = n := ⟨_, rfl⟩
  obtain ⟨nt, hnt⟩ : ∃ n, ts.length = n := ⟨_, rfl⟩
  obtain ⟨cp, hcp⟩ : ∃ n, ckPlant p = n := ⟨_, rfl⟩
  rw [hn] at HB HX HCP HCK ⊢
  rw [hm] at HB HX HCP HCK ⊢
  have HNT := Lib.hid hnt
  rw [hnt] at HU HSZ HDR HR hlu hlc ⊢
  rw [hcp] at HCP HR
  clear hn hm hnt hcp
  obtain ⟨W1, hW1⟩ : ∃ W, w.alloc (.cells #[.slice a1 n n1, .slice a2 m n2] 25) = W := ⟨_, rfl⟩
  rw [hW1] at HB HX
  obtain ⟨x0, x1, xf, xz⟩ := HX.out.v2
  go_enter Tryz.func52, Tryz.ntmps52
  go_wp2_with fail
  try rw [hW1]
  clear hW1
  refine (HCP.out _ HB.out).mono ?_
  rintro e w2 ⟨rfl, hb2⟩
  have HB2 := Lib.hid (HB.out.trans (hb2.mono HB.out.size))
  have HX2 := Lib.hid (HX.out.later hb2)
  clear x0 x1 xf xz hb2 HB HX
  by_cases h0 : cp = 0
  rotate_left
  · have k0 : (cp != 0) = true := by simpa using h0
    have HV := Lib.hid (show cp = R by rw [← HR.out, if_pos h0])
    go_wp2_with fail
    go_ret
    exact ⟨by rw [HV.out]; rfl, HB2.out⟩
  subst h0
  by_cases h1 : 16 < nt
  · have d0 : decide ((16 : Int) < (nt : Int)) = true := decide_eq_true (by omega)
    have HV := Lib.hid (show R = 5 by rw [← HR.out, if_neg (show ¬ (0 : Int) ≠ 0 by simp), if_pos h1])
    go_wp2_with fail
    go_ret
    exact ⟨by rw [HV.out]; rfl, HB2.out⟩
  have d0 : decide ((16 : Int) < (nt : Int)) = false := decide_eq_false (by omega)
  have HRL := Lib.hid (show ckTkL p (ts.drop 0) = R by rw [← HR.out, if_neg (show ¬ (0 : Int) ≠ 0 by simp), if_neg h1]; rfl)
  clear h1 HR
  go_wp2_with fail
  clear d0
  go_loopw [6] (fun i wr => ∃ k : Nat, k ≤ nt ∧ i = .int .i64 k ∧ Below w2.heap.size w2 wr ∧ ckTkL p (ts.drop k) = R) (fun i _ => nt - (intOf i).toNat)
  case atStart => exact ⟨0, by omega, rfl, Below.refl _ _, HRL.out⟩
  case round =>
    clear HRL
    obtain ⟨k, hk, rfl, hbe, hrl⟩ := hrel
    have HB3 := Lib.hid hbe
    have HBW := Lib.hid (HB2.out.trans (hbe.mono HB2.out.size))
    have HX3 := Lib.hid (HX2.out.later hbe)
    have HRL := Lib.hid hrl
    clear hbe hrl
    by_cases hlt : k < nt
    rotate_left
    · obtain rfl : nt = k := by omega
      have HV := Lib.hid (show R = 0 by rw [← HRL.out, ← HNT.out, List.drop_length]; rfl)
      go_wp2_with fail
      go_ret
      exact ⟨by rw [HV.out]; rfl, HBW.out⟩
    obtain ⟨bT, oT, eT, hbT, hcT⟩ := HU.out (by omega)
    subst eT
    obtain ⟨au, cu1, HT, HSl⟩ := hcT k hlt
    have hgs := HSZ.out k hlt
    have HDK := Lib.hid (HDR.out k hlt)
    rw [HRL.out] at HDK
    obtain ⟨tk, htk⟩ : ∃ t, ts.getD k tk0 = t := ⟨_, rfl⟩
    rw [htk] at HT HSl hgs HDK
    clear htk hcT HRL
    rw [HTK.out] at HDK
    obtain ⟨lk, hlk⟩ : ∃ n, tk.path.length = n := ⟨_, rfl⟩
    rw [hlk] at HT HSl
    have HK := Lib.hid (fun (X : Later wr) => HCK.out X.w (HBW.out.trans (X.h.mono HBW.out.size)) _ _ HSl)
    have HNM := Lib.hid (fun (w1 : World) => isName28 tk.grain w1 hgs)
    have HTT := Lib.hid HT
    obtain ⟨t0, t1, t2⟩ := (HT.below HBW.out hbT).c3
    have hbTz : bT < wr.heap.size := Nat.lt_of_lt_of_le hbT HBW.out.size
    have hkn : (k : Int) < (nt : Int) := by omega
    obtain ⟨pe, hpe⟩ : ∃ e, pathE p tk.path = e := ⟨_, rfl⟩
    obtain ⟨nm, hnm⟩ : ∃ e, isName tk.grain = e := ⟨_, rfl⟩
    rw [hpe] at HK HDK
    rw [hnm] at HNM HDK
    clear hlk hpe hnm HT HSl hgs
    obtain ⟨x0, x1, xf, xz⟩ := HX3.out.v2
    go_wp2_with fail
    refine wp_region_later (by kernel_rfl) (by kernel_rfl) ?_
    repeat go_big_quiet_step ((go_at_call 22; exact Calls.later (HK.out _)))
    refine wpQuiet_nil ?_
    rintro w4 ⟨⟨_, hb4⟩, rfl⟩
    have HB4 := Lib.hid (HB3.out.trans (hb4.mono HB3.out.size))
    have HBW4 := Lib.hid (HBW.out.trans (hb4.mono HBW.out.size))
    clear hb4 t0 t1 t2 hbTz x0 x1 xf xz HK
    obtain ⟨t0, t1, t2⟩ := (HTT.out.below HBW4.out hbT).c3
    have hbTz : bT < w4.heap.size := Nat.lt_of_lt_of_le hbT HBW4.out.size
    by_cases h2 : pe = 0
    rotate_left
    · have k0 : (pe != 0) = true := by simpa using h2
      have HV := Lib.hid (show R = pe by rw [HDK.out, if_pos h2, if_pos h2])
      go_wp2_with fail
      go_ret
      exact ⟨by rw [HV.out]; rfl, HBW4.out⟩
    subst h2
    rw [if_neg (show ¬ (0 : Int) ≠ 0 by simp)] at HDK
    go_wp2_with fail
    refine (HNM.out _).mono ?_
    rintro ex wx ⟨rfl, rfl⟩
    cases nm with
    | false =>
      have HV := Lib.hid (show R = 8 by rw [HDK.out]; rfl)
      go_wp2_with fail
      go_ret
      exact ⟨by rw [HV.out]; rfl, HBW4.out⟩
    | true =>
      rw [if_neg (show ¬ (true = false) by simp)] at HDK
      by_cases h3 : tk.run < 1
      · have d1 : decide (tk.run < 1) = true := decide_eq_true h3
        have HV := Lib.hid (show R = 3 by rw [HDK.out, if_pos (Or.inl h3 : tk.run < 1 ∨ 100000 < tk.run)]; rfl)
        go_wp2_with fail
        go_ret
        exact ⟨by rw [HV.out]; rfl, HBW4.out⟩
      have d1 : decide (tk.run < 1) = false := decide_eq_false h3
      by_cases h4 : 100000 < tk.run
      · have d2 : decide (100000 < tk.run) = true := decide_eq_true h4
        have HV := Lib.hid (show R = 3 by rw [HDK.out, if_pos (Or.inr h4 : tk.run < 1 ∨ 100000 < tk.run)]; rfl)
        go_wp2_with fail
        go_ret
        exact ⟨by rw [HV.out]; rfl, HBW4.out⟩
      have d2 : decide (100000 < tk.run) = false := decide_eq_false h4
      have HV := Lib.hid (show ckTkL p (ts.drop (k + 1)) = R by rw [HDK.out, if_neg (by omega : ¬ (tk.run < 1 ∨ 100000 < tk.run)), if_neg (show ¬ (0 : Int) ≠ 0 by simp)])
      go_wp2_with fail
      go_roundw
      case rel => exact ⟨k + 1, by omega, by go_num, HB4.out, HV.out⟩
      case measure => simp [intOf]; omega
end Go.Proofs.YtahpdkkpnkhnhaaGreatDoor
/- Walks: the length of a schedule. -/
namespace Go.Proofs.YtahpdkkpnkhnhaaGreatDoor
open Go Go.Proofs Go.RowKit Go.Shelf
theorem lenT_bd {p : Pl} (hp : OkP p) {ts : List Tk} {st : List Int} (ht : ∀ k, k < ts.length → OkT p (ts.getD k tk0)) (hs : ∀ k, k < ts.length → 0 ≤ st.getD k 0 ∧ st.getD k 0 ≤ 1000000000) : ∀ k, k ≤ ts.length → 0 ≤ lenT p ts st k ∧ lenT p ts st k ≤ 1010000000
  | 0, _ => by simp [lenT]
  | k + 1, hk => by
    obtain ⟨h1, h2⟩ := lenT_bd hp ht hs k (by omega)
    obtain ⟨h3, h4⟩ := hs k (by omega)
    have h5 := ht k (by omega)
    obtain ⟨h6, h7⟩ := h5.run
    have h8 := tSum_bd hp h5.ins
    have h9 := Nat.le_trans h5.len hp.le
    unfold lenT
    omega
set_option maxRecDepth 100000 in
set_option maxHeartbeats 1000000 in
theorem length115 (w : World) (v1 v2 u x : Value) (p : Pl) (ts : List Tk) (st : List Int) (hv : PlR w w.heap.size v1 v2 p) (hu : TasksR w w.heap.size u ts) (hx : Sl encI 1 w w.heap.size x st) (hp : OkP p) (ht : ∀ t ∈ ts, OkT p t) (hl : st.length = ts.length) (hs : ∀ k, k < ts.length → 0 ≤ st.getD k 0 ∧ st.getD k 0 ≤ 1000000000) :
    Calls Tryz.prog 115 #[.agg #[v1, v2], u, x] w (Ret (.int .i64 (lenT p ts st ts.length)) w) := by
  have HSEC := Lib.hid (fun (w1 : World) (hb : Below w.heap.size w w1) (v : Value) (l : List Int) (hl : Sl encI 1 w w.heap.size v l) (hin : ∀ x ∈ l, inN p.ms.length x = true) => seconds105 w1 _ _ v p l (hv.later hb) (hl.later hb) hin hp.times)
  have htk : ∀ k, k < ts.length → OkT p (ts.getD k tk0) := fun k hk => by rw [tkGet hk]; exact ht _ (List.getElem_mem hk)
  have HLB := Lib.hid (fun k (hk : k ≤ ts.length) => lenT_bd hp htk hs k hk)
  have HTK := Lib.hid htk
  have HSS := Lib.hid hs
  have HSB := Lib.hid (fun (l : List Int) (h : ∀ x ∈ l, inN p.ms.length x = true) => tSum_bd hp h)
  have HLE := Lib.hid (fun k (hk : k < ts.length) => Nat.le_trans (htk k hk).len hp.le)
  have HLS := Lib.hid (fun k => show lenT p ts st (k + 1) = max (lenT p ts st k) (st.getD k 0 + (ts.getD k tk0).run + tSum p (ts.getD k tk0).path) from rfl)
  obtain ⟨uu, cu, rfl, hlu, hlc, hU⟩ := hu.open_
  have HU := Lib.hid hU
  obtain ⟨xx, cx, rfl, hlx, hXX⟩ := hx
  have HXX := Lib.hid (show 0 < st.length → ∃ b off, xx = some ⟨b, off, none⟩ ∧ b < w.heap.size ∧ ∀ i, i < st.length → w.cell? ⟨b, off + i, none⟩ = some (.int .i64 (st.getD i 0)) from fun h0 => by
    obtain ⟨b, off, e, hb, hc⟩ := hXX h0
    refine ⟨b, off, e, hb, fun i hi => ?_⟩
    have := (hc i hi).c1
    rw [Nat.mul_one] at this
    rw [getD_geI hi]; exact this)
  obtain ⟨a1, n1, a2, n2, rfl, rfl⟩ := hv.agg
  clear hv hu hU hXX ht htk hs
  have HB := Lib.hid ((Below.refl w.heap.size w).alloc (Nat.le_refl _) (.cells #[.slice a1 p.ms.length n1, .slice a2 p.arcs.length n2] 25))
  have HX := Lib.hid (Box.new w #[.slice a1 p.ms.length n1, .slice a2 p.arcs.length n2] 25)
  obtain ⟨n, hn⟩ : ∃ n, p.ms.length = n := ⟨_, rfl⟩
  obtain ⟨m, hm⟩ : ∃ n, p.arcs.length = n := ⟨_, rfl⟩
  obtain ⟨nt, hnt⟩ : ∃ n, ts.length = n := ⟨_, rfl⟩
  rw [hn] at HB HX HSEC ⊢
  rw [hm] at HB HX HSEC ⊢
  rw [hnt] at HU HLB HTK HSS HLE hlu hlc hl ⊢
  rw [hl] at HXX hlx ⊢
  have HNN := Lib.hid hn
  clear hnt hl hm hn
  go_enter Tryz.func115, Tryz.ntmps115
  go_wp2_with fail
  obtain ⟨W1, hW1⟩ : ∃ W, w.alloc (.cells #[.slice a1 n n1, .slice a2 m n2] 25) = W := ⟨_, rfl⟩
  rw [hW1] at HB HX ⊢
  clear hW1
  go_loopw [7, 12] (fun o i wr => ∃ k : Nat, k ≤ nt ∧ i = .int .i64 k ∧ o = .int .i64 (lenT p ts st k) ∧ Below W1.heap.size W1 wr) (fun _ i _ => nt - (intOf i).toNat)
  case atStart => exact ⟨0, by omega, rfl, rfl, Below.refl _ _⟩
  case round =>
    obtain ⟨k, hk, rfl, rfl, hbe⟩ := hrel
    have HB1 := Lib.hid hbe
    have HBW := Lib.hid (HB.out.trans (hbe.mono HB.out.size))
    have HX1 := Lib.hid (HX.out.later hbe)
    clear hbe
    by_cases hlt : k < nt
    rotate_left
    · obtain rfl : nt = k := by omega
      generalize lenT p ts st nt = LL at *
      go_wp2_with fail
      go_ret
      exact ⟨rfl, HBW.out⟩
    obtain ⟨bX, oX, eX, hbX, hcX⟩ := HXX.out (by omega)
    subst eX
    obtain ⟨bT, oT, eT, hbT, hcT⟩ := HU.out (by omega)
    subst eT
    obtain ⟨au, cu1, HT, HSl⟩ := hcT k hlt
    have HOK := HTK.out k hlt
    obtain ⟨hs0, hs1⟩ := HSS.out k hlt
    obtain ⟨hl0, hl1⟩ := HLB.out k hk
    have HLK := Lib.hid (HLS.out k)
    have hle := HLE.out k hlt
    have o0 := hcX k hlt
    obtain ⟨tk, htk⟩ : ∃ t, ts.getD k tk0 = t := ⟨_, rfl⟩
    obtain ⟨sk, hsk⟩ : ∃ t, st.getD k 0 = t := ⟨_, rfl⟩
    obtain ⟨lk, hlk⟩ : ∃ t, lenT p ts st k = t := ⟨_, rfl⟩
    rw [htk] at HT HSl HOK HLK hle
    rw [hsk] at o0 hs0 hs1 HLK
    rw [hlk] at hl0 hl1 HLK ⊢
    clear htk hsk hlk hcT
    obtain ⟨hr0, hr1⟩ := HOK.run
    have hsb := HSB.out tk.path HOK.ins
    obtain ⟨pl, hpl⟩ : ∃ n, tk.path.length = n := ⟨_, rfl⟩
    have HSA := fun w1 hb => HSEC.out w1 hb _ _ HSl (by rw [← HNN.out]; exact HOK.ins)
    rw [hpl] at HT HSA hle hsb
    clear hpl HSl HOK hcX
    generalize tSum p tk.path = sm at *
    have HW2 := Lib.hid HT
    obtain ⟨t0, t1, t2⟩ := (HT.below HBW.out hbT).c3
    have hbTz : bT < wr.heap.size := Nat.lt_of_lt_of_le hbT HBW.out.size
    have hkn : (k : Int) < (nt : Int) := by omega
    obtain ⟨gk, hgk⟩ : ∃ g, tk.grain = g := ⟨_, rfl⟩
    obtain ⟨rk, hrk⟩ : ∃ g, tk.run = g := ⟨_, rfl⟩
    rw [hgk] at t1
    rw [hrk] at t2 hr0 hr1 HLK
    have hb2 : Below wr.heap.size wr (wr.alloc (.cells #[.slice au pl cu1, .string gk, .int .i64 rk] 114)) := (Below.refl _ _).alloc (Nat.le_refl _) _
    have HB2 := Lib.hid (HB1.out.trans (hb2.mono HB1.out.size))
    have HBW2 := Lib.hid (HBW.out.trans (hb2.mono HBW.out.size))
    have HX2 := Lib.hid (HX1.out.later hb2)
    have HT2 := Lib.hid (Box.new wr #[.slice au pl cu1, .string gk, .int .i64 rk] 114)
    have o1 := (HBW2.out.cell (p := ⟨bX, oX + k, none⟩) hbX).trans o0
    have hbXz : bX < (wr.alloc (.cells #[.slice au pl cu1, .string gk, .int .i64 rk] 114)).heap.size := Nat.lt_of_lt_of_le hbX HBW2.out.size
    clear hb2 hgk hrk o0 HT
    go_wp2_with fail
    obtain ⟨W3, hW3⟩ : ∃ W, wr.alloc (.cells #[.slice au pl cu1, .string gk, .int .i64 rk] 114) = W := ⟨_, rfl⟩
    obtain ⟨g3, hg3⟩ : ∃ W, wr.heap.size = W := ⟨_, rfl⟩
    rw [hW3] at HB2 HBW2 HX2 HT2 o1 hbXz ⊢
    rw [hg3] at HT2 ⊢
    clear hW3 hg3 t0 t1 t2 hbTz
    obtain ⟨x0, x1, xf, xz⟩ := HX2.out.v2
    obtain ⟨z0, z1, z2, zf, zz⟩ := HT2.out.t3
    have HK := Lib.hid (fun (X : Later W3) => HSA X.w (HBW2.out.trans (X.h.mono HBW2.out.size)))
    have e1 : IntKind.i64.wrap (sk + rk) = sk + rk := IntWalk.i64_in _ (by omega)
    have e2 : IntKind.i64.wrap (sk + rk + sm) = sk + rk + sm := IntWalk.i64_in _ (by omega)
    clear HSA
    refine wp_region_later (by kernel_rfl) (by kernel_rfl) ?_
    repeat go_big_quiet_step ((go_at_call 105; exact Calls.later (HK.out _)))
    refine wpQuiet_nil ?_
    rintro w4 ⟨⟨_, hb4⟩, rfl⟩
    have HB4 := Lib.hid (HB2.out.trans (hb4.mono HB2.out.size))
    clear hb4
    go_wp2_with fail
    go_roundw
    case rel => exact ⟨k + 1, by omega, by go_num, by rw [HLK.out], HB4.out⟩
    case measure => simp [intOf]; omega
theorem ckSch_ok {p : Pl} {ts : List Tk} {st : List Int} (h : ckSch p ts st = 0) : st.length = ts.length ∧ (∀ k, k < ts.length → 0 ≤ st.getD k 0 ∧ st.getD k 0 ≤ 1000000000) := by
  unfold ckSch at h
  split at h
  · cases h
  · rename_i h1
    split at h
    · cases h
    · rename_i h2
      have h1 : st.length = ts.length := Decidable.not_not.1 h1
      refine ⟨h1, fun k hk => ?_⟩
      have hb : badS (st.getD k 0) = false := by
        cases hq : badS (st.getD k 0) with
        | false => rfl
        | true => exact absurd (List.any_eq_true.2 ⟨_, getD_mem0 (by omega), hq⟩) h2
      have := badS_of hb
      omega
theorem sch_ok {p : Pl} {ts : List Tk} {st : List Int} (h : schE p ts st = 0) : OkP p ∧ (∀ t ∈ ts, OkT p t) ∧ st.length = ts.length ∧ (∀ k, k < ts.length → 0 ≤ st.getD k 0 ∧ st.getD k 0 ≤ 1000000000) := by
  unfold schE at h
  split at h
  · rename_i h1; exact absurd h h1
  · rename_i h1
    obtain ⟨h2, _, h3⟩ := ckTasks_ok (Decidable.not_not.1 h1)
    exact ⟨h2, fun t ht => (ckTk_ok (h3 t ht)).1, ckSch_ok h⟩
def lenE (p : Pl) (ts : List Tk) (st : List Int) : Int := if schE p ts st ≠ 0 then 0 else lenT p ts st ts.length
set_option maxRecDepth 100000 in
set_option maxHeartbeats 1000000 in
theorem length56 (w : World) (v1 v2 u x : Value) (p : Pl) (ts : List Tk) (st : List Int) (hw : WdR w) (hv : PlR w w.heap.size v1 v2 p) (hu : TasksR w w.heap.size u ts) (hs : SzT ts) (hx : Sl encI 1 w w.heap.size x st) :
    Calls Tryz.prog 56 #[.agg #[v1, v2], u, x] w (Ret (.tuple #[.int .i64 (lenE p ts st), .int .i64 (schE p ts st)]) w) := by
  have H1 := Lib.hid (fun (w1 : World) (hb : Below w.heap.size w w1) => checkSchedule55 w1 _ _ _ _ p ts st (hw.later hb) (hv.later hb) (hu.later hb) hs (hx.later hb))
  have H2 := Lib.hid (fun (w1 : World) (hb : Below w.heap.size w w1) (hp : OkP p) (ht : ∀ t ∈ ts, OkT p t) hl hs => length115 w1 _ _ _ _ p ts st (hv.later hb) (hu.later hb) (hx.later hb) hp ht hl hs)
  obtain ⟨a1, n1, a2, n2, rfl, rfl⟩ := hv.agg
  obtain ⟨uu, cu, rfl, _, _, _⟩ := hu.open_
  obtain ⟨xx, cx, rfl, _, _⟩ := id hx
  have HOK := Lib.hid (fun h : schE p ts st = 0 => sch_ok h)
  clear hv hu hx hs hw
  obtain ⟨E, hE⟩ : ∃ e, schE p ts st = e := ⟨_, rfl⟩
  obtain ⟨V, hV⟩ : ∃ e, lenE p ts st = e := ⟨_, rfl⟩
  rw [hV]
  unfold lenE at hV
  rw [hE] at H1 HOK hV ⊢
  have HV := Lib.hid hV
  clear hE hV
  have HB := Lib.hid ((Below.refl w.heap.size w).alloc (Nat.le_refl _) (.cells #[.slice a1 p.ms.length n1, .slice a2 p.arcs.length n2] 25))
  have HX := Lib.hid (Box.new w #[.slice a1 p.ms.length n1, .slice a2 p.arcs.length n2] 25)
  obtain ⟨L, hL⟩ : ∃ e, lenT p ts st ts.length = e := ⟨_, rfl⟩
  rw [hL] at H2 HV
  obtain ⟨n, hn⟩ : ∃ n, p.ms.length = n := ⟨_, rfl⟩
  obtain ⟨m, hm⟩ : ∃ n, p.arcs.length = n := ⟨_, rfl⟩
  rw [hn] at HB HX H1 H2 ⊢
  rw [hm] at HB HX H1 H2 ⊢
  have HLL := Lib.hid (show st.length = ts.length → st.length = ts.length from id)
  obtain ⟨nt, hnt⟩ : ∃ n, ts.length = n := ⟨_, rfl⟩
  obtain ⟨ns, hns⟩ : ∃ n, st.length = n := ⟨_, rfl⟩
  rw [hnt, hns] at H1 H2 HOK ⊢
  clear hL hn hm hnt hns
  obtain ⟨Q, hQ⟩ : ∃ Q, Ret (.tuple #[.int .i64 V, .int .i64 E]) w = Q := ⟨_, rfl⟩
  rw [hQ]
  have HQ : Hid (∀ w', Below w.heap.size w w' → Q (.returned (.tuple #[.int .i64 V, .int .i64 E])) w') := Lib.hid (fun w' h => by rw [← hQ]; exact ⟨rfl, h⟩)
  clear hQ
  obtain ⟨W1, hW1⟩ : ∃ W, w.alloc (.cells #[.slice a1 n n1, .slice a2 m n2] 25) = W := ⟨_, rfl⟩
  rw [hW1] at HB HX
  obtain ⟨x0, x1, xf, xz⟩ := HX.out.v2
  go_enter Tryz.func56, Tryz.ntmps56
  go_wp2_with fail
  try rw [hW1]
  clear hW1
  refine (H1.out _ HB.out).mono ?_
  rintro e w2 ⟨rfl, hb2⟩
  have HB2 := Lib.hid (HB.out.trans (hb2.mono HB.out.size))
  have HX2 := Lib.hid (HX.out.later hb2)
  clear x0 x1 xf xz hb2 HB HX
  obtain ⟨x0, x1, xf, xz⟩ := HX2.out.v2
  by_cases h0 : E = 0
  rotate_left
  · have k0 : (E != 0) = true := by simpa using h0
    have HZ := Lib.hid (show V = 0 by rw [← HV.out, if_pos h0])
    go_wp2_with fail
    rw [← HZ.out]
    exact HQ.out _ HB2.out
  subst h0
  have HZ := Lib.hid (show V = L by rw [← HV.out, if_neg (show ¬ (0 : Int) ≠ 0 by simp)])
  obtain ⟨h1, h2, h3, h4⟩ := HOK.out rfl
  have H3 := Lib.hid (H2.out _ HB2.out h1 h2 h3 h4)
  clear HOK h1 h2 h3 h4 H2
  go_wp2_with fail
  refine H3.out.mono ?_
  rintro e w3 ⟨rfl, hb3⟩
  have HB3 := Lib.hid (HB2.out.trans (hb3.mono HB2.out.size))
  go_wp2_with fail
  rw [← HZ.out]
  exact HQ.out _ HB3.out
end Go.Proofs.YtahpdkkpnkhnhaaGreatDoor
