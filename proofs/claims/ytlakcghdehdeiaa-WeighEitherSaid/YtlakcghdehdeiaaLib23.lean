/- Lemmas on the way to the laws (part 23): Ui Uj Uk -/
import Derived.Test.YtlakcghdehdeiaaLib19
import Derived.Test.YtlakcghdehdeiaaLib11
import Derived.Test.YtlakcghdehdeiaaLib10
import Derived.Test.YtlakcghdehdeiaaLib15
set_option linter.unusedVariables false
set_option linter.unusedSimpArgs false

/- Walks: the reference's Without. -/
namespace Go.Proofs.Ytlakcghdehdeiaa
open Go Go.Proofs Go.RowKit

/-- Which of n numbers are in a list of integers. -/
def kI (n : Nat) (L : List Int) : List Bool := (List.range n).map fun (i : Nat) => decide ((i : Int) ∈ L)
theorem kI_len (n : Nat) (L : List Int) : (kI n L).length = n := by simp [kI]
theorem kI_get (n : Nat) (L : List Int) (k : Nat) (h : k < n) : (kI n L).getD k true = decide ((k : Int) ∈ L) := by
  simp [kI, List.getD_eq_getElem?_getD, h]

set_option maxRecDepth 100000 in
set_option maxHeartbeats 1000000 in
theorem without84 (w : World) (v1 v2 u : Value) (b : Bk) (L : List Int) (hok : OkBk b) (hv : BkR w w.heap.size v1 v2 b) (hu : Sl encI 1 w w.heap.size u L) :
    Calls Try.prog 84 #[.agg #[v1, v2], u] w (WoPost w v1 (b.wout (kI b.ts.length L))) := by
  have HIN := Lib.hid (fun (w1 : World) (hb : Below w.heap.size w w1) (x : Int) => in76 u L x w1 (hu.later hb))
  have HST := Lib.hid hv.st
  have HIDS := Lib.hid hv.ids
  have h128 := hok.ts128
  have h32 := hok.st32
  obtain ⟨⟨a1, n1, hv1, hl1, hA1⟩, ⟨a2, n2, hv2, hl2, hA2⟩, hids⟩ := hv
  subst hv1 hv2
  obtain ⟨a3, n3, hv3, hl3, hA3⟩ := hu
  subst hv3
  have HA2 := Lib.hid hA2
  clear hA2
  clear hA1 hA3 hids hok
  go_enter Try.func84, Try.ntmps84
  go_wp2_with fail
  have hbx := ((Box.new w #[.slice a1 b.st.length n1, .slice a2 b.ts.length n2] 38).alloc (.cells #[.slice none 0 0, .slice none 0 0] 38)).alloc (.cells #[.slice a1 b.st.length n1, .slice none 0 0] 38)
  have hbr := (Box.newAt (w.alloc (.cells #[.slice a1 b.st.length n1, .slice a2 b.ts.length n2] 38)) #[.slice none 0 0, .slice none 0 0] 38 (n := w.heap.size + 1) (by simp)).alloc (.cells #[.slice a1 b.st.length n1, .slice none 0 0] 38)
  have hbo := Box.newAt ((w.alloc (.cells #[.slice a1 b.st.length n1, .slice a2 b.ts.length n2] 38)).alloc (.cells #[.slice none 0 0, .slice none 0 0] 38)) #[.slice a1 b.st.length n1, .slice none 0 0] 38 (n := w.heap.size + 1 + 1) (by simp)
  have hbl : Below w.heap.size w (((w.alloc (.cells #[.slice a1 b.st.length n1, .slice a2 b.ts.length n2] 38)).alloc (.cells #[.slice none 0 0, .slice none 0 0] 38)).alloc (.cells #[.slice a1 b.st.length n1, .slice none 0 0] 38)) := (((Below.refl _ _).alloc (Nat.le_refl _) _).alloc (by simp) _).alloc (by simp; omega) _
  have hsz : w.heap.size + 1 + 1 + 1 ≤ (((w.alloc (.cells #[.slice a1 b.st.length n1, .slice a2 b.ts.length n2] 38)).alloc (.cells #[.slice none 0 0, .slice none 0 0] 38)).alloc (.cells #[.slice a1 b.st.length n1, .slice none 0 0] 38)).heap.size := by simp
  generalize ((w.alloc (.cells #[.slice a1 b.st.length n1, .slice a2 b.ts.length n2] 38)).alloc (.cells #[.slice none 0 0, .slice none 0 0] 38)).alloc (.cells #[.slice a1 b.st.length n1, .slice none 0 0] 38) = w1 at *
  go_loopw [6] (fun i wr => ∃ (k : Nat) (vo : Value), k ≤ b.ts.length ∧ i = .int .i64 k ∧ Below w.heap.size w wr ∧ Box wr w.heap.size 38 [.slice a1 b.st.length n1, .slice a2 b.ts.length n2] ∧ Box wr (w.heap.size + 1) 38 [.slice none 0 0, .slice none 0 0] ∧ Box wr (w.heap.size + 1 + 1) 38 [.slice a1 b.st.length n1, vo] ∧
    Own Tk.enc 5 53 wr (w.heap.size + 1 + 1 + 1) vo ((wo b.ts (kI b.ts.length L) b.ts.length).take k)) (fun i _ => b.ts.length - (intOf i).toNat)
  case atStart => exact ⟨0, _, by omega, rfl, hbl, hbx, hbr, hbo, Own.nil _ _ _ _ _⟩
  case round =>
    clear hbl hbx hbr hbo hsz
    obtain ⟨k, vo, hk, rfl, hbe, hbx, hbr, hbo, hown⟩ := hrel
    obtain ⟨x0, x1, xf, xz⟩ := hbx.v2
    obtain ⟨o0, o1, of, oz⟩ := hbo.v2
    by_cases hlt : k < b.ts.length
    · obtain ⟨bb, off, rfl, hbb, hcells⟩ := HA2.out (by omega)
      obtain ⟨e0, e1, e2, e3, e4⟩ := ((hcells k hlt).below hbe hbb).c5
      have hbz : bb < wr.heap.size := by have := hbe.size; omega
      have hwl := wo_len b.ts (kI b.ts.length L) b.ts.length
      have htk := take_snoc (wo b.ts (kI b.ts.length L) b.ts.length) k (by rw [hwl]; exact hlt)
      rw [wo_get _ _ _ _ hlt, if_pos hlt, kI_get _ _ _ hlt] at htk
      have HTK := Lib.hid htk
      generalize b.ts[k] = t at *
      obtain ⟨tid, fr, to, lo, hi⟩ := t
      dsimp only at e0 e1 e2 e3 e4
      have hlk : ((wo b.ts (kI b.ts.length L) b.ts.length).take k).length ≤ 1000000 := by have := List.length_take_le k (wo b.ts (kI b.ts.length L) b.ts.length); omega
      have HLK := Lib.hid hlk
      have hba : Below wr.heap.size wr (wr.alloc (.cells #[.string tid, .int .i64 fr, .int .i64 to, .int .i64 lo, .int .i64 hi] 53)) := (Below.refl _ _).alloc (Nat.le_refl _) _
      have HBE := Lib.hid (hbe.trans (hba.mono hbe.size))
      have HBX := Lib.hid (hbx.later hba)
      have HBR := Lib.hid (hbr.later hba)
      have HBO := Lib.hid (hbo.later hba)
      have HOW := Lib.hid (hown.later hba)
      have HBT := Lib.hid (Box.new wr #[.string tid, .int .i64 fr, .int .i64 to, .int .i64 lo, .int .i64 hi] 53)
      have hsz3 : w.heap.size + 1 + 1 + 1 ≤ wr.heap.size := by omega
      have hsz4 : wr.heap.size < (wr.alloc (.cells #[.string tid, .int .i64 fr, .int .i64 to, .int .i64 lo, .int .i64 hi] 53)).heap.size := by simp
      have HNB := Lib.hid (show vo.ownBlock ≠ some wr.heap.size from fun e => by have := (World.ownsRow.lt hown _ e).2; omega)
      clear hcells htk hwl hlk hbe hbx hbr hbo hown hba
      go_wp2_with fail
      generalize wr.alloc (.cells #[.string tid, .int .i64 fr, .int .i64 to, .int .i64 lo, .int .i64 hi] 53) = w2 at *
      generalize wr.heap.size = Bt at *
      clear e0 e1 e2 e3 e4 x0 x1 xf xz o0 o1 of oz hbz
      refine (HIN.out w2 HBE.out k).mono ?_
      rintro e w3 ⟨rfl, rfl⟩
      by_cases hin : (k : Int) ∈ L
      · rw [decide_eq_true hin] at HTK ⊢
        have HCS := Lib.hid (show (#[Value.string tid, .int .i64 fr, .int .i64 to, .int .i64 lo, .int .i64 hi] : Array Value).toList = Tk.enc (loosen ⟨tid, fr, to, ⟨lo, hi⟩⟩ true) from rfl)
        have HLK1 := Lib.hid (show ((wo b.ts (kI b.ts.length L) b.ts.length).take k ++ [loosen ⟨tid, fr, to, ⟨lo, hi⟩⟩ true]).length = k + 1 by simp [wo_len]; omega)
        obtain ⟨o0, o1, of, oz⟩ := HBO.out.v2
        have t0 := HBT.out.cell 0
        have t1 := HBT.out.cell 1
        have t2 := HBT.out.cell 2
        have t3 := HBT.out.cell 3
        have t4 := HBT.out.cell 4
        simp only [List.getElem?_cons_zero, List.getElem?_cons_succ] at t0 t1 t2 t3 t4
        have HOA := Lib.hid (HOW.out.alloc (.cells #[.string tid, .int .i64 fr, .int .i64 to, .int .i64 lo, .int .i64 hi] 53))
        have HSZ := Lib.hid (show w.heap.size + 1 + 1 + 1 ≤ (w2.alloc (.cells #[.string tid, .int .i64 fr, .int .i64 to, .int .i64 lo, .int .i64 hi] 53)).heap.size by simp; omega)
        have HBA := Lib.hid (HBE.out.alloc (by omega) (.cells #[.string tid, .int .i64 fr, .int .i64 to, .int .i64 lo, .int .i64 hi] 53))
        have HXA := Lib.hid (HBX.out.alloc (.cells #[.string tid, .int .i64 fr, .int .i64 to, .int .i64 lo, .int .i64 hi] 53))
        have HRA := Lib.hid (HBR.out.alloc (.cells #[.string tid, .int .i64 fr, .int .i64 to, .int .i64 lo, .int .i64 hi] 53))
        have HBOA := Lib.hid (HBO.out.alloc (.cells #[.string tid, .int .i64 fr, .int .i64 to, .int .i64 lo, .int .i64 hi] 53))
        go_wp2_with (at_builtin; (refine wpList_pushB Tk.enc 5 48 36 53 _ Try.underlying36 Try.infoTk rfl (by decide) (by decide) Tk.enc_len' Tk.enc_one ((wo b.ts (kI b.ts.length L) b.ts.length).take k) (loosen ⟨tid, fr, to, ⟨lo, hi⟩⟩ true) (w.heap.size + 1 + 1 + 1) _ _ _ _ (row_here (by simp)) HCS.out _ HOA.out HSZ.out HLK.out rfl _ _ rfl rfl rfl ?_); intro v' w' hown' hg'; obtain ⟨a', cap', hvv⟩ := hown'.shape; rw [HLK1.out] at hvv; subst hvv; have hbo' := HBOA.out.kept hg' (HOA.out.ne (by omega)); obtain ⟨p0, p1, pf, pz⟩ := hbo'.v2; have HBO' := Lib.hid hbo'; have HOW' := Lib.hid hown'; have HGR := Lib.hid hg'; clear hbo' hown' hg')
        go_roundw
        case rel =>
          refine ⟨k + 1, _, by omega, by go_num, (grown_below HBA.out HGR.out HBA.out.size HOA.out.lt' (by omega)).setCell (by dsimp only; omega) _, (HXA.out.kept HGR.out (HOA.out.ne (by omega))).other _ (by dsimp only; omega), (HRA.out.kept HGR.out (HOA.out.ne (by omega))).other _ (by dsimp only; omega), HBO'.out.set 1 _, ?_⟩
          rw [HTK.out]
          exact HOW'.out.below (a := ⟨w.heap.size + 1 + 1, 1, none⟩) _ (by dsimp only; omega)
        case measure => simp [intOf]; omega
      · rw [decide_eq_false hin] at HTK ⊢
        have ht2 := (HBT.out.set 3 (.int .i64 0)).set 4 (.int .i64 999999999)
        have hbd2 : ∀ {W : World}, True := fun {_} => trivial
        have HCS := Lib.hid (show (#[Value.string tid, .int .i64 fr, .int .i64 to, .int .i64 0, .int .i64 999999999] : Array Value).toList = Tk.enc (loosen ⟨tid, fr, to, ⟨lo, hi⟩⟩ false) from rfl)
        have HLK1 := Lib.hid (show ((wo b.ts (kI b.ts.length L) b.ts.length).take k ++ [loosen ⟨tid, fr, to, ⟨lo, hi⟩⟩ false]).length = k + 1 by simp [wo_len]; omega)
        have t3 := HBT.out.cell 3
        have t4 := HBT.out.cell 4
        have tf := HBT.out.frozen
        simp only [List.getElem?_cons_zero, List.getElem?_cons_succ] at t3 t4
        have hbe4 := (HBE.out.setCell (p := ⟨Bt, 3, none⟩) (by dsimp only; omega) (.int .i64 0)).setCell (p := ⟨Bt, 4, none⟩) (by dsimp only; omega) (.int .i64 999999999)
        have hbx4 := (HBX.out.other (a := ⟨Bt, 3, none⟩) (.int .i64 0) (by dsimp only; omega)).other (a := ⟨Bt, 4, none⟩) (.int .i64 999999999) (by dsimp only; omega)
        have hbr4 := (HBR.out.other (a := ⟨Bt, 3, none⟩) (.int .i64 0) (by dsimp only; omega)).other (a := ⟨Bt, 4, none⟩) (.int .i64 999999999) (by dsimp only; omega)
        have hbo4 := (HBO.out.other (a := ⟨Bt, 3, none⟩) (.int .i64 0) (by dsimp only; omega)).other (a := ⟨Bt, 4, none⟩) (.int .i64 999999999) (by dsimp only; omega)
        have how4 := (HOW.out.other (a := ⟨Bt, 3, none⟩) (.int .i64 0) HNB.out).other (a := ⟨Bt, 4, none⟩) (.int .i64 999999999) HNB.out
        have hsz5 : w.heap.size + 1 + 1 + 1 ≤ ((w2.setCell ⟨Bt, 3, none⟩ (.int .i64 0)).setCell ⟨Bt, 4, none⟩ (.int .i64 999999999)).heap.size := by simp; omega
        simp only [List.set_cons_zero, List.set_cons_succ] at ht2
        obtain ⟨o0, o1, of, oz⟩ := hbo4.v2
        have s0 := ht2.cell 0
        have s1 := ht2.cell 1
        have s2 := ht2.cell 2
        have s3 := ht2.cell 3
        have s4 := ht2.cell 4
        simp only [List.getElem?_cons_zero, List.getElem?_cons_succ] at s0 s1 s2 s3 s4
        have HBE4 := Lib.hid hbe4
        have HBX4 := Lib.hid hbx4
        have HBR4 := Lib.hid hbr4
        have HBO4 := Lib.hid hbo4
        have HOW4 := Lib.hid how4
        have HSZ5 := Lib.hid hsz5
        clear hbe4 hbx4 hbr4 hbo4 how4 ht2 hsz5 hbd2
        have HOA := Lib.hid (HOW4.out.alloc (.cells #[.string tid, .int .i64 fr, .int .i64 to, .int .i64 0, .int .i64 999999999] 53))
        have HSZ := Lib.hid (show w.heap.size + 1 + 1 + 1 ≤ (((w2.setCell ⟨Bt, 3, none⟩ (.int .i64 0)).setCell ⟨Bt, 4, none⟩ (.int .i64 999999999)).alloc (.cells #[.string tid, .int .i64 fr, .int .i64 to, .int .i64 0, .int .i64 999999999] 53)).heap.size by simp; omega)
        have HBA := Lib.hid (HBE4.out.alloc HBE4.out.size (.cells #[.string tid, .int .i64 fr, .int .i64 to, .int .i64 0, .int .i64 999999999] 53))
        have HXA := Lib.hid (HBX4.out.alloc (.cells #[.string tid, .int .i64 fr, .int .i64 to, .int .i64 0, .int .i64 999999999] 53))
        have HRA := Lib.hid (HBR4.out.alloc (.cells #[.string tid, .int .i64 fr, .int .i64 to, .int .i64 0, .int .i64 999999999] 53))
        have HBOA := Lib.hid (HBO4.out.alloc (.cells #[.string tid, .int .i64 fr, .int .i64 to, .int .i64 0, .int .i64 999999999] 53))
        go_wp2_with (at_builtin; (refine wpList_pushB Tk.enc 5 48 36 53 _ Try.underlying36 Try.infoTk rfl (by decide) (by decide) Tk.enc_len' Tk.enc_one ((wo b.ts (kI b.ts.length L) b.ts.length).take k) (loosen ⟨tid, fr, to, ⟨lo, hi⟩⟩ false) (w.heap.size + 1 + 1 + 1) _ _ _ _ (row_here (by simp)) HCS.out _ HOA.out HSZ.out HLK.out rfl _ _ rfl rfl rfl ?_); intro v' w' hown' hg'; obtain ⟨a', cap', hvv⟩ := hown'.shape; rw [HLK1.out] at hvv; subst hvv; have hbo' := HBOA.out.kept hg' (HOA.out.ne (by omega)); obtain ⟨p0, p1, pf, pz⟩ := hbo'.v2; have HBO' := Lib.hid hbo'; have HOW' := Lib.hid hown'; have HGR := Lib.hid hg'; clear hbo' hown' hg')
        go_roundw
        case rel =>
          refine ⟨k + 1, _, by omega, by go_num, (grown_below HBA.out HGR.out HBA.out.size HOA.out.lt' (by omega)).setCell (by dsimp only; omega) _, (HXA.out.kept HGR.out (HOA.out.ne (by omega))).other _ (by dsimp only; omega), (HRA.out.kept HGR.out (HOA.out.ne (by omega))).other _ (by dsimp only; omega), HBO'.out.set 1 _, ?_⟩
          rw [HTK.out]
          exact HOW'.out.below (a := ⟨w.heap.size + 1 + 1, 1, none⟩) _ (by dsimp only; omega)
        case measure => simp [intOf]; omega
    · obtain rfl : b.ts.length = k := by omega
      rw [List.take_of_length_le (by rw [wo_len]; exact Nat.le_refl _)] at hown
      have hfin := wo_fin HST.out hbe hbr (hown.lower (by omega)) (by omega) HIDS.out
      have HF := Lib.hid hfin
      have HBR := Lib.hid hbr
      obtain ⟨a, cap, hvs⟩ := hown.shape
      rw [wo_len] at hvs
      subst hvs
      have hr2 := (hbr.set 0 (.slice a1 b.st.length n1)).set 1 (.slice a b.ts.length cap)
      have r0 := hr2.cell 0
      have r1 := hr2.cell 1
      simp only [List.set_cons_zero, List.set_cons_succ, List.getElem?_cons_zero, List.getElem?_cons_succ] at r0 r1
      clear hfin hbe hbx hown
      obtain ⟨q0, q1, qf, qz⟩ := HBR.out.v2
      go_wp2_with fail
      refine bodyPost_ret (v := .agg #[.slice a1 b.st.length n1, .slice a b.ts.length cap]) (by simp [results, Try.results84, go_sem, *]) rfl ?_
      exact HF.out
end Go.Proofs.Ytlakcghdehdeiaa

/- Walks: weigh.CheckMinimal. -/
namespace Go.Proofs.Ytlakcghdehdeiaa
open Go Go.Proofs Go.RowKit

theorem nums_nat {L : List Int} {n : Nat} (h : ckNums L n = 0) : ∃ l : List Nat, L = outI l ∧ (∀ i ∈ l, i < n) ∧ l.Nodup := by
  obtain ⟨h1, h2⟩ := ckNums_ok h
  have e : L = outI (L.map Int.toNat) := by
    unfold outI
    rw [List.map_map]
    conv => lhs; rw [← List.map_id L]
    apply List.map_congr_left
    intro x hx
    have := (h1 x hx).1
    simp only [id, Function.comp]
    omega
  refine ⟨L.map Int.toNat, e, ?_, ?_⟩
  · intro i hi
    obtain ⟨x, hx, rfl⟩ := List.mem_map.1 hi
    have := h1 x hx
    omega
  · rw [e] at h2
    unfold outI at h2
    rw [List.Nodup, List.pairwise_map] at h2
    exact h2.imp fun h hh => h (by rw [hh])
theorem set_take (m : Nat) (l : List Nat) (k : Nat) (hk : k < l.length) : (ksOf m (l.take k)).set l[k] true = ksOf m (l.take (k + 1)) := by
  have e := List.take_append_getElem hk
  refine ksOf_set _ _ _ _ _ ?_ ?_
  · intro i _ hik; rw [← e]; simp only [List.mem_append, List.mem_singleton, hik, or_false]
  · intro _; rw [← e]; simp only [List.mem_append, List.mem_singleton, or_true]
theorem mem_out {l : List Nat} {k : Nat} (hk : k < l.length) (hn : l.Nodup) (i : Nat) : i ∈ l.eraseIdx k ↔ (i ∈ l ∧ i ≠ l[k]) := by
  rw [List.mem_eraseIdx_iff_getElem]
  have hp := List.pairwise_iff_getElem.1 hn
  constructor
  · rintro ⟨j, hj, hjk, rfl⟩
    refine ⟨List.getElem_mem hj, fun e => ?_⟩
    rcases Nat.lt_or_gt_of_ne hjk with h | h
    · exact hp j k hj hk h e
    · exact hp k j hk hj h e.symm
  · rintro ⟨hi, hne⟩
    obtain ⟨j, hj, rfl⟩ := List.mem_iff_getElem.1 hi
    exact ⟨j, hj, fun e => hne (by subst e; rfl), rfl⟩
theorem set_out (m : Nat) (l : List Nat) (k : Nat) (hk : k < l.length) (hn : l.Nodup) : (ksOf m l).set l[k] false = ksOf m (l.eraseIdx k) :=
  ksOf_set _ _ _ _ _ (by intro i _ hik; rw [mem_out hk hn]; exact ⟨fun h => h.1, fun h => ⟨h, hik⟩⟩) (by intro _; rw [mem_out hk hn]; simp)
theorem set_back (m : Nat) (l : List Nat) (k : Nat) (hk : k < l.length) (hn : l.Nodup) : (ksOf m (l.eraseIdx k)).set l[k] true = ksOf m l :=
  ksOf_set _ _ _ _ _ (by intro i _ hik; rw [mem_out hk hn]; exact ⟨fun h => ⟨h, hik⟩, fun h => h.1⟩) (by intro _; simp)

def cmE (b : Bk) (L : List Int) : Int := firstNZ [ckBook b, ckNums L b.ts.length]
/-- These tickets contradict each other, and none can be left out. -/
def IsMinL (b : Bk) (l : List Nat) : Prop := ¬ ConL b l ∧ ∀ j, j < l.length → ConL b (l.eraseIdx j)
def CmPost (w : World) (b : Bk) (L : List Int) (e : Ending) (w' : World) : Prop :=
  Below w.heap.size w w' ∧ ((cmE b L ≠ 0 ∧ e = .returned (.int .i64 (cmE b L))) ∨ (cmE b L = 0 ∧ ∃ l : List Nat, L = outI l ∧ (∀ i ∈ l, i < b.ts.length) ∧ l.Nodup ∧ ((IsMinL b l ∧ e = .returned (.int .i64 0)) ∨ (¬ IsMinL b l ∧ e = .returned (.int .i64 18)))))

set_option maxRecDepth 100000 in
set_option maxHeartbeats 1000000 in
theorem ckMin48 (w : World) (v1 v2 u : Value) (b : Bk) (L : List Int) (hv : BkR w w.heap.size v1 v2 b) (hu : Sl encI 1 w w.heap.size u L) : Calls Try.prog 48 #[.agg #[v1, v2], u] w (CmPost w b L) := by
  have HC := Lib.hid (fun (w1 : World) (hb : Below w.heap.size w w1) => ckBook25 v1 v2 b w1 (hv.later hb))
  have HS := Lib.hid (fun (w1 : World) (hb : Below w.heap.size w w1) (hok : OkBk b) u ks hu hk => contradict83 w1 v1 v2 u b ks hok (hv.later hb) hu hk)
  have hl1 : b.ts.length ≤ 1000000000 := by obtain ⟨a1, n1, _, h, _⟩ := hv.ts; exact h
  have HN := Lib.hid (fun (w1 : World) (hb : Below w.heap.size w w1) => numbers71 u L b.ts.length w1 (hu.later hb) (by omega))
  obtain ⟨⟨a1, n1, hv1, hl1, hA1⟩, ⟨a2, n2, hv2, hl2, hA2⟩, hids⟩ := hv
  subst hv1 hv2
  obtain ⟨a3, n3, hv3, hl3, hA3⟩ := hu
  subst hv3
  have HA := Lib.hid hA3
  clear hA3
  clear hA1 hA2 hids
  go_enter Try.func48, Try.ntmps48
  go_wp2_with fail
  have hx0 := Box.new w #[.slice a1 b.st.length n1, .slice a2 b.ts.length n2] 38
  have hb0 : Below w.heap.size w (w.alloc (.cells #[.slice a1 b.st.length n1, .slice a2 b.ts.length n2] 38)) := (Below.refl _ _).alloc (Nat.le_refl _) _
  generalize w.alloc (.cells #[.slice a1 b.st.length n1, .slice a2 b.ts.length n2] 38) = W0 at *
  have HC2 := Lib.hid (fun (X : Later W0) => HC.out X.w (hb0.trans (X.h.mono hb0.size)))
  have HN2 := Lib.hid (fun (X : Later W0) => HN.out X.w (hb0.trans (X.h.mono hb0.size)))
  have x0 := hx0.cell 0
  have x1 := hx0.cell 1
  have xz := hx0.lt
  simp only [List.getElem?_cons_zero, List.getElem?_cons_succ] at x0 x1
  have HX0 := Lib.hid hx0
  have HB0 := Lib.hid hb0
  clear hx0 hb0 HC HN
  refine wp_region_head_later 7 (by kernel_rfl) (by kernel_rfl) ?_
  simp only [List.take_succ_cons, List.take_zero, List.drop_succ_cons, List.drop_zero]
  repeat go_big_quiet_step ((first | (go_at_call 25; exact Calls.later (HC2.out _)) | (go_at_call 71; exact Calls.later (HN2.out _))))
  refine wpQuiet_nil ?_
  rintro w1 ⟨⟨_, hb1⟩, rfl⟩
  have hx1 := HX0.out.later hb1
  have HB1 := Lib.hid (HB0.out.trans (hb1.mono HB0.out.size))
  clear HX0 HB0 HC2 HN2 hb1 x0 x1 xz
  have xz := hx1.lt
  have HCE := Lib.hid (show cmE b L = firstNZ [ckBook b, ckNums L b.ts.length] from rfl)
  generalize hE : cmE b L = E at *
  have hfirst := first63 (.slice (some ⟨w1.heap.size, 0, none⟩) 2 2) [ckBook b, ckNums L b.ts.length] _ (Sl.lit encI_len _ w1 #[.int .i64 (ckBook b), .int .i64 (ckNums L b.ts.length)] 27 2 rfl rfl (by simp))
  rw [← HCE.out] at hfirst
  have hb2 := HB1.out.alloc (by omega) (.cells #[.int .i64 (ckBook b), .int .i64 (ckNums L b.ts.length)] 27)
  have hx2 := hx1.alloc (.cells #[.int .i64 (ckBook b), .int .i64 (ckNums L b.ts.length)] 27)
  have HB2 := Lib.hid hb2
  have HX2 := Lib.hid hx2
  clear hb2 hx2 hx1
  have HF := Lib.hid hfirst
  clear hfirst
  have HE := Lib.hid hE
  clear hE
  by_cases h0 : E = 0
  · subst h0
    have HCK := Lib.hid (firstNZ_2.1 HCE.out.symm)
    have HOK := Lib.hid (okBk_of HCK.out.1)
    have h128 := HOK.out.ts128
    obtain ⟨l, hLl, hll, hnd⟩ := nums_nat HCK.out.2
    have hlen : L.length = l.length := by rw [hLl]; simp
    rw [hlen]
    have HLL := Lib.hid hLl
    clear hLl
    obtain ⟨m, hm⟩ : ∃ m, b.ts.length = m := ⟨_, rfl⟩
    have HX3 := Lib.hid (show Box (w1.alloc (.cells #[.int .i64 (ckBook b), .int .i64 (ckNums L b.ts.length)] 27)) w.heap.size 38 [.slice a1 b.st.length n1, .slice a2 m n2] from by rw [← hm]; exact HX2.out)
    obtain ⟨x0, x1, xf, xz2⟩ := HX3.out.v2
    rw [hm] at h128 hll
    have HCC := Lib.hid (fun w1 hb u ks hu (hk : ks.length = m) => HS.out w1 hb HOK.out u ks hu (by rw [hm]; exact hk))
    rw [hm] at HCC
    have hl4 : l.length ≤ 1000000000 := by omega
    have HHL := Lib.hid hlen
    have HA2 := Lib.hid (fun (h : 0 < l.length) => HA.out (by rw [hlen]; exact h))
    have HM := Lib.hid hm
    clear hm
    clear hlen HX2
    go_wp2_with (first | (go_at_call 63; refine HF.out.mono ?_; rintro e w' ⟨rfl, rfl⟩) | ((with_reducible refine wpList_mk1 encB false (.bool false) rfl 112 4 1 Try.underlying112 Try.infoB rfl (by decide) (w.heap.size + 1) _ m (by omega) (by simp; omega) rfl _ _ rfl _ _ rfl rfl ?_); intro w2 hown hgr; have HOW := Lib.hid hown; have HGR := Lib.hid hgr; clear hown hgr))
    have hgb := grown_none_below HGR.out
    have hs0 : (w1.alloc (.cells #[.int .i64 (ckBook b), .int .i64 (ckNums L b.ts.length)] 27)).heap.size = w1.heap.size + 1 := by simp
    have how := HOW.out
    rw [hs0] at how
    have HMX := Lib.hid (show MinX w w2 [.slice a1 b.st.length n1, .slice a2 m n2] m (w1.heap.size + 1) (.slice none 0 0) (l.take 0) [] from
      ⟨HB2.out.trans (hgb.mono HB2.out.size), HX3.out.grown HGR.out (by simp), by rw [List.take_zero, show ([] : List Nat) = List.range 0 from rfl, ksOf_zero]; exact how, Own.nil _ _ _ _ _, by omega⟩)
    clear hgb HGR HOW how hs0 HX3 HB2 HB1 HF x0 x1 xf xz2
    go_loopw [29] (fun j wr => ∃ k : Nat, k ≤ l.length ∧ j = .int .i64 k ∧ MinX w wr [.slice a1 b.st.length n1, .slice a2 m n2] m (w1.heap.size + 1) (.slice none 0 0) (l.take k) []) (fun j _ => l.length - (intOf j).toNat)
    case atStart => exact ⟨0, by omega, rfl, HMX.out⟩
    case round =>
      obtain ⟨k, hk, rfl, hx⟩ := hrel
      clear HMX
      by_cases hlt : k < l.length
      · have HLT := Lib.hid hlt
        obtain ⟨bb, off, rfl, hbb, hcells⟩ := HA2.out (by omega)
        have hbz : bb < wr.heap.size := by have := hx.below.size; omega
        have c0 := ((hcells k (by rw [HHL.out]; exact hlt)).below hx.below hbb).c1
        rw [Nat.mul_one] at c0
        have hlk : L[k]'(by rw [HHL.out]; exact hlt) = ((l[k]'hlt : Nat) : Int) := by have h9 := HLL.out; subst h9; exact List.getElem_map _
        rw [hlk] at c0
        have hkm := hll l[k] (List.getElem_mem hlt)
        obtain ⟨hf, ⟨u0, hcl⟩, HR2⟩ := hx.set l[k] hkm true (set_take m l k hlt)
        have HR3 := Lib.hid HR2
        clear HR2 hx hcells hlk
        generalize l[k] = t at *
        go_wp2_with fail
        go_roundw
        case rel => exact ⟨k + 1, HLT.out, by go_num, HR3.out⟩
        case measure => simp [intOf]; have := HLT.out; omega
      · obtain rfl : l.length = k := by omega
        rw [List.take_length] at hx
        have HX := Lib.hid hx
        clear hx
        obtain ⟨x0, x1, xf, xz3⟩ := HX.out.box.v2
        go_wp2_with fail
        refine (HCC.out _ HX.out.below _ _ (HX.out.slice (by omega)) (ksOf_len _ _)).mono ?_
        rintro e w3 ⟨c, rfl, hiff, hb3⟩
        have HX3 := Lib.hid (HX.out.later hb3)
        have HIF := Lib.hid (show c = true ↔ ¬ ConL b l by unfold ConL; rw [HM.out]; exact hiff)
        clear hb3 x0 x1 xf xz3 HX hiff
        obtain ⟨x0, x1, xf, xz3⟩ := HX3.out.box.v2
        have HE' := Lib.hid (show cmE b L = 0 from HE.out)
        have HFIN := Lib.hid (show ∀ i ∈ l, i < b.ts.length from by rw [HM.out]; exact hll)
        cases c
        · go_wp2_with fail
          refine bodyPost_ret (v := .int .i64 18) (by simp [results, Try.results48, go_sem, *]) rfl ?_
          exact ⟨HX3.out.below, .inr ⟨HE'.out, l, HLL.out, HFIN.out, hnd, .inr ⟨fun h => (by have := HIF.out.2 h.1; cases this), rfl⟩⟩⟩
        · go_wp2_with fail
          go_loopw [43] (fun j wr => ∃ k : Nat, k ≤ l.length ∧ j = .int .i64 k ∧ (∀ i, i < k → ConL b (l.eraseIdx i)) ∧ MinX w wr [.slice a1 b.st.length n1, .slice a2 m n2] m (w1.heap.size + 1) (.slice none 0 0) l []) (fun j _ => l.length - (intOf j).toNat)
          case atStart => exact ⟨0, by omega, rfl, by intro i hi; omega, HX3.out⟩
          case round =>
            clear HX3 x0 x1 xf xz3
            obtain ⟨k, hk, rfl, hall, hx⟩ := hrel
            have HALL := Lib.hid hall
            clear hall
            by_cases hlt : k < l.length
            · have HLT := Lib.hid hlt
              obtain ⟨bb, off, rfl, hbb, hcells⟩ := HA2.out (by omega)
              have hbz : bb < wr.heap.size := by have := hx.below.size; omega
              have HCL := Lib.hid (hcells k (by rw [HHL.out]; exact hlt))
              have c0 := (HCL.out.below hx.below hbb).c1
              rw [Nat.mul_one] at c0
              have hlk : L[k]'(by rw [HHL.out]; exact hlt) = ((l[k]'hlt : Nat) : Int) := by have h9 := HLL.out; subst h9; exact List.getElem_map _
              rw [hlk] at c0
              have hkm := hll l[k] (List.getElem_mem hlt)
              obtain ⟨hf, ⟨u0, hcl⟩, HR2⟩ := hx.set l[k] hkm false (set_out m l k hlt hnd)
              have HR3 := Lib.hid HR2
              have HBK := Lib.hid (set_back m l k hlt hnd)
              obtain ⟨x0, x1, xf, xz3⟩ := hx.box.v2
              have hne : w1.heap.size + 1 ≠ w.heap.size := by have := hx.ge; omega
              have hne2 : bb ≠ w1.heap.size + 1 := by omega
              clear HR2 hcells hlk hx HCL
              generalize l[k] = t at *
              go_wp2_with fail
              refine (HCC.out _ HR3.out.below _ _ (HR3.out.slice (by omega)) (ksOf_len _ _)).mono ?_
              rintro e w4 ⟨c, rfl, hiff, hb4⟩
              have HX5 := Lib.hid (HR3.out.later hb4)
              have HC4 := Lib.hid (show c = true ↔ ¬ ConL b (l.eraseIdx k) by unfold ConL; rw [HM.out]; exact hiff)
              clear hb4 x0 x1 xf xz3 HR3 hcl hf hiff c0
              cases c
              · obtain ⟨hf, ⟨u0, hcl⟩, HR2⟩ := HX5.out.set t hkm true HBK.out
                have HR6 := Lib.hid HR2
                clear HR2
                go_wp2_with fail
                go_roundw
                case rel =>
                  refine ⟨k + 1, HLT.out, by go_num, fun i hi => ?_, HR6.out⟩
                  by_cases hik : i = k
                  · subst hik
                    exact Classical.byContradiction fun h => by have := HC4.out.2 h; cases this
                  · exact HALL.out i (by omega)
                case measure => simp [intOf]; have := HLT.out; omega
              · go_wp2_with fail
                refine bodyPost_ret (v := .int .i64 18) (by simp [results, Try.results48, go_sem, *]) rfl ?_
                exact ⟨HX5.out.below, .inr ⟨HE'.out, l, HLL.out, HFIN.out, hnd, .inr ⟨fun h => HC4.out.1 (by trivial) (h.2 k hlt), rfl⟩⟩⟩
            · obtain rfl : l.length = k := by omega
              have HB9 := Lib.hid hx.below
              clear hx
              go_wp2_with fail
              refine bodyPost_ret (v := .int .i64 0) (by simp [results, Try.results48, go_sem, *]) rfl ?_
              exact ⟨HB9.out, .inr ⟨HE'.out, l, HLL.out, HFIN.out, hnd, .inl ⟨⟨HIF.out.1 (by trivial), HALL.out⟩, rfl⟩⟩⟩
  · have hne : (E == 0) = false := by simp [h0]
    go_wp2_with (go_at_call 63; refine HF.out.mono ?_; rintro e w' ⟨rfl, rfl⟩)
    refine bodyPost_ret (v := .int .i64 E) (by simp [results, Try.results48, go_sem, *]) rfl ?_
    exact ⟨HB2.out, .inl ⟨by rw [HE.out]; exact h0, by rw [HE.out]⟩⟩
end Go.Proofs.Ytlakcghdehdeiaa

/- Walks: the reference's less. -/
namespace Go.Proofs.Ytlakcghdehdeiaa
open Go Go.Proofs Go.RowKit

theorem cat_ownI {w : World} {g B : Nat} (h : w.heap[g]? = some (.cells #[] 3 (0, 0))) (hb : B ≤ g) : Own encI 1 3 w B (.slice (some ⟨g, 0, none⟩) 0 0) [] :=
  ⟨rfl, .inr ⟨g, 0, #[], rfl, hb, h, Nat.le_refl _, by simp, rfl, rfl⟩⟩
set_option maxRecDepth 100000 in
set_option maxHeartbeats 1000000 in
theorem less85 (w : World) (bb off c : Nat) (L : List Int) (k : Nat) (hk : k < L.length) (hc : L.length ≤ c) (hl : L.length ≤ 1000000)
    (hA : ∀ i (h : i < L.length), ∀ j u, (encI L[i])[j]? = some u → w.cell? ⟨bb, off + (i * 1 + j), none⟩ = some u) (hbb : bb < w.heap.size) :
    Calls Try.prog 85 #[.slice (some ⟨bb, off, none⟩) L.length c, .int .i64 k] w (fun e w' => ∃ v, e = .returned v ∧ Below w.heap.size w w' ∧ Own encI 1 3 w' w.heap.size v (L.take k ++ L.drop (k + 1))) := by
  have HA := Lib.hid hA
  have HB2 := Lib.hid hbb
  clear hA hbb
  have h1 : (k : Int) ≤ c := by omega
  have h2 : k + 1 ≤ L.length := hk
  go_enter Try.func85, Try.ntmps85
  go_wp2_with fail
  have hlt : (L.take k).length = k := by simp; omega
  have hld : (L.drop (k + 1)).length = L.length - (k + 1) := by simp
  have HLT := Lib.hid hlt
  have HLD := Lib.hid hld
  have HL := Lib.hid hl
  clear hlt hld
  have hw : IntKind.i64.wrap ((k : Int) + 1) = ((k + 1 : Nat) : Int) := by rw [IntWalk.i64_in _ (by omega)]; omega
  have h3 : (k : Int) + 1 ≤ L.length := by omega
  have h6 : (0 : Int) ≤ (k : Int) + 1 := by omega
  have h4 : (L.length : Int) ≤ c := by omega
  have h5 : k + 1 ≤ c := by omega
  refine wp_region_noPanic ?_
  go_region_law (first
    | (refine step_cat encI 1 8 22 3 _ Try.underlying22 Try.infoI rfl (by decide) (by decide) encI_len encI_one [] (L.take k) w.heap.size _ _ (cat_ownI (by repeat (first | exact row_at (by simp) | refine row_old ?_ | refine row_drew ?_)) (by first | exact Nat.le_refl _ | (simp; omega))) (by first | exact Nat.le_refl _ | (simp <;> omega)) (by have := HL.out; rw [HLT.out]; simp only [List.length_nil]; omega) ⟨bb, off, none⟩ c (by
        intro i h j u hu
        rw [Addr.add_lit]
        rw [List.getElem_take] at hu
        refine Eq.trans (Below.cell (w := w) (p := ⟨bb, off + (i * 1 + j), none⟩) (B := w.heap.size) ?_ HB2.out) (HA.out i (by simp at h; omega) j u hu)
        repeat (first | exact Below.refl _ _ | refine Below.alloc ?_ (by simp) _ | refine Below.drew ?_)) rfl _ _ rfl rfl (by rw [HLT.out]; rfl) ?_; intro v1 w1 hown1 hgr1; rw [List.nil_append] at hown1)
    | (refine step_cat encI 1 8 22 3 _ Try.underlying22 Try.infoI rfl (by decide) (by decide) encI_len encI_one (L.take k) (L.drop (k + 1)) w.heap.size _ _ hown1 (by refine Nat.le_trans ?_ hgr1.size; simp) (by have := HL.out; rw [HLT.out, HLD.out]; omega) (if c = k + 1 then ⟨bb, off, none⟩ else ⟨bb, off + (k + 1), none⟩) (c - (k + 1)) (by
        intro i h j u hu
        by_cases hck : c = k + 1
        · rw [HLD.out] at h; omega
        · rw [if_neg hck, Addr.add_lit]
          rw [List.getElem_drop] at hu
          have hbw : Below w.heap.size w w1 := Below.grown (w := (w.alloc (.cells #[] 3)).drew) (((Below.refl w.heap.size w).alloc (Nat.le_refl _) _).drew) hgr1 (by simp) (fun k hk => by have : w.heap.size = k := Option.some.inj hk; omega)
          have := HA.out (k + 1 + i) (by rw [HLD.out] at h; omega) j u hu
          rw [show off + (k + 1) + (i * 1 + j) = off + ((k + 1 + i) * 1 + j) by omega]
          exact Eq.trans (Below.cell (w := w) (p := ⟨bb, off + ((k + 1 + i) * 1 + j), none⟩) (B := w.heap.size) hbw HB2.out) this) rfl _ _ rfl rfl (by rw [HLD.out]; show Value.slice (if c = k + 1 then _ else _) _ _ = _; split <;> rfl) ?_; intro v2 w2 hown2 hgr2))
  refine NoPanic.normal ?_
  have hbw2 : Below w.heap.size w w1 := Below.grown (w := (w.alloc (.cells #[] 3)).drew) (((Below.refl w.heap.size w).alloc (Nat.le_refl _) _).drew) hgr1 (by simp) (fun k hk => by have : w.heap.size = k := Option.some.inj hk; omega)
  have HF := Lib.hid (hbw2.grown hgr2 hbw2.size (fun k hk => hown1.lt' k hk))
  have HO := Lib.hid hown2
  clear hbw2
  go_wp2_with fail
  all_goals
    refine bodyPost_ret (v := v2) (by simp [results, Try.results85, go_sem, *]) rfl ?_
    exact ⟨v2, rfl, HF.out, HO.out⟩
end Go.Proofs.Ytlakcghdehdeiaa
