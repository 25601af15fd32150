/- Lemmas on the way to the law PathBests (part 8): Uh Ui Uj -/
import Derived.Test.YtahpdkkpnkhnhaaGreatDoorPathBestsP06
import Derived.Test.YtahpdkkpnkhnhaaGreatDoorPathBestsP07
import Derived.Test.YtahpdkkpnkhnhaaGreatDoorPathBestsP04
import Derived.Test.YtahpdkkpnkhnhaaGreatDoorPathBestsP03
import Derived.ArgAppend
import Derived.WalkMore
import Derived.Deep.LoopGhost
set_option linter.unusedVariables false
set_option linter.unusedSimpArgs false

/- Walks: Best of the reference. -/
namespace Go.Proofs.YtahpdkkpnkhnhaaGreatDoor
open Go Go.Proofs Go.RowKit Go.Shelf
theorem stO_bd {p : Pl} {ts : List Tk} (h : TsOk p ts) : ∀ k, k < ts.length → 0 ≤ (stO p ts).getD k 0 ∧ (stO p ts).getD k 0 ≤ 1000000000 := fun k hk => by
  have hb := sched_bd h.pk h.t (by rw [stO_len]; omega) (stO_R p ts) k (by rw [stO_len]; exact hk)
  have := h.n
  omega
def bestK' (f : List Int → Int) (L : List (List Int)) (k : Nat) : List Int × Int := (L.take k).foldl (updO f) ([], -1)
theorem bestK'_succ (f : List Int → Int) (L : List (List Int)) (k : Nat) (h : k < L.length) : bestK' f L (k + 1) = if (bestK' f L k).2 < 0 ∨ f L[k] < (bestK' f L k).2 then (L[k], f L[k]) else bestK' f L k := by
  unfold bestK'
  rw [foldl_snoc _ _ _ _ h]; rfl
def BestP (w : World) (p : Pl) (ts : List Tk) (e : Ending) (w' : World) : Prop := ∃ v, e = .returned v ∧ Sl encI 1 w' w'.heap.size v (bestO (lenO p ts) (levO ts.length ts.length)).1 ∧ Below w.heap.size w w'
set_option maxRecDepth 100000 in
set_option maxHeartbeats 2000000 in
theorem best73 (w : World) (v1 v2 u : Value) (p : Pl) (ts : List Tk) (hv : PlR w w.heap.size v1 v2 p) (hu : TasksR w w.heap.size u ts) (hk : TsOk p ts) (h6 : ts.length ≤ 6) :
    Calls Tryz.prog 73 #[.agg #[v1, v2], u] w (BestP w p ts) := by
  have C131 := Lib.hid (fun (w1 : World) => orders131 w1 ts.length h6)
  have C76 := Lib.hid (fun (w1 : World) (hb : Below w.heap.size w w1) (v : Value) (o : List Int) (hs : Sl encI 1 w1 w1.heap.size v o) (ho : OrdK ts.length ts.length o) => ordered76 w1 u v ts o (hu.later hb) hs ho.ins (by rw [ho.len]; omega))
  have C57 := Lib.hid (fun (w1 : World) (hb : Below w.heap.size w w1) (v : Value) (us : List Tk) (hs : TasksR w1 w1.heap.size v us) (hk : TsOk p us) => schedule57 w1 v1 v2 v p us (stO p us) (hv.later hb) hs hk.pk hk.t hk.n (stO_len p us) (stO_R p us))
  have C59 := Lib.hid (fun (w1 : World) (hb : Below w.heap.size w w1) (v x : Value) (us : List Tk) (hs : TasksR w1 w1.heap.size v us) (hk : TsOk p us) (hx : Sl encI 1 w1 w1.heap.size x (stO p us)) => length59 w1 v1 v2 v x p us (stO p us) (hv.later hb) hs hx hk.pk hk.t (stO_len p us) (stO_bd hk))
  have HK := Lib.hid hk
  obtain ⟨Q, hQ⟩ : ∃ Q, BestP w p ts = Q := ⟨_, rfl⟩
  rw [hQ]
  have HQ : Hid (∀ (v : Value) (w' : World), Sl encI 1 w' w'.heap.size v (bestO (lenO p ts) (levO ts.length ts.length)).1 → Below w.heap.size w w' → Q (.returned v) w') := Lib.hid (fun v w' h1 h2 => by rw [← hQ]; exact ⟨v, rfl, h1, h2⟩)
  have HNE := Lib.hid (show levO ts.length ts.length ≠ [] from fun e => by
    have := lev_mem (ord_nums ts.length)
    rw [e] at this; cases this)
  have HOK := Lib.hid (lev_ord ts.length ts.length)
  have HLN := Lib.hid (fun l (hl : OrdK ts.length ts.length l) => show lenO p ts l = lenT p (ordT ts l) (stO p (ordT ts l)) (ordT ts l).length from rfl)
  have HLE := Lib.hid (fun l (hl : OrdK ts.length ts.length l) => show 0 ≤ lenO p ts l ∧ lenO p ts l ≤ 1010000000 from lenF_nn (hk.ord hl))
  clear hQ
  obtain ⟨a1, n1, a2, n2, rfl, rfl⟩ := hv.agg
  obtain ⟨uu, cu, rfl, hlu, hlc, _⟩ := hu.open_
  have HB := Lib.hid ((Below.refl w.heap.size w).alloc (Nat.le_refl _) (.cells #[.slice a1 p.ms.length n1, .slice a2 p.arcs.length n2] 25))
  have HX := Lib.hid (Box.new w #[.slice a1 p.ms.length n1, .slice a2 p.arcs.length n2] 25)
  clear hv hu hk
  obtain ⟨n, hn⟩ : ∃ n, p.ms.length = n := ⟨_, rfl⟩
  obtain ⟨m, hm⟩ : ∃ n, p.arcs.length = n := ⟨_, rfl⟩
  obtain ⟨nt, hnt⟩ : ∃ n, ts.length = n := ⟨_, rfl⟩
  rw [hn] at C57 C59 HB HX ⊢
  rw [hm] at C57 C59 HB HX ⊢
  rw [hnt] at C131 C76 HQ HNE HOK HLN HLE hlu hlc h6 ⊢
  have HNT := Lib.hid hnt
  clear hn hm hnt
  go_enter Tryz.func73, Tryz.ntmps73
  go_wp2_with fail
  refine (C131.out _).mono ?_
  rintro e w2 ⟨vl, rfl, hll, hb⟩
  have HB2 := Lib.hid (HB.out.trans (hb.mono HB.out.size))
  have HX2 := Lib.hid (HX.out.later hb)
  clear hb HB HX
  have hL5 : (levO nt nt).length ≤ 50000 := by
    refine Nat.le_trans (levO_len nt nt) ?_
    rcases (show nt = 0 ∨ nt = 1 ∨ nt = 2 ∨ nt = 3 ∨ nt = 4 ∨ nt = 5 ∨ nt = 6 by omega) with rfl | rfl | rfl | rfl | rfl | rfl | rfl <;> decide
  obtain ⟨LL, hLL⟩ : ∃ L, levO nt nt = L := ⟨_, rfl⟩
  rw [hLL] at hll HQ HNE HOK hL5
  clear hLL
  obtain ⟨HL, hown, hHL, hin⟩ := hll
  obtain ⟨al, cl, rfl⟩ := hown.shape
  obtain ⟨nL, hnL⟩ : ∃ n, LL.length = n := ⟨_, rfl⟩
  rw [hnL] at hL5
  have hHn : HL.length = nL := by omega
  rw [hHn] at hown ⊢
  have HNL := Lib.hid hnL
  have HHN := Lib.hid hHn
  have HOWN := Lib.hid hown
  have HIN := Lib.hid hin
  have HN0 := Lib.hid (show 0 < nL by
    rcases Nat.eq_zero_or_pos nL with h | h
    · exact absurd (List.eq_nil_of_length_eq_zero (by rw [hnL]; exact h)) HNE.out
    · exact h)
  clear hown hHL hin hnL hHn
  obtain ⟨f, hf⟩ : ∃ f, lenO p ts = f := ⟨_, rfl⟩
  rw [hf] at HQ HLN HLE
  clear hf
  go_wp2_with fail
  go_loopw [6, 7, 8] (fun b l i wr => ∃ (k bi : Nat), k ≤ nL ∧ i = .int .i64 k ∧ b = .int .i64 bi ∧ l = .int .i64 (bestK' f LL k).2 ∧ ((k = 0 ∧ bi = 0) ∨ (0 < k ∧ bi < nL ∧ LL[bi]? = some (bestK' f LL k).1 ∧ 0 ≤ (bestK' f LL k).2 ∧ (bestK' f LL k).2 ≤ 1010000000)) ∧ Below w2.heap.size w2 wr) (fun _ _ i _ => nL - (intOf i).toNat)
  case atStart => exact ⟨0, 0, by omega, rfl, rfl, rfl, .inl ⟨rfl, rfl⟩, Below.refl _ _⟩
  case round =>
    obtain ⟨k, bi, hk, rfl, rfl, rfl, hbi, hbe⟩ := hrel
    have HBI := Lib.hid hbi
    have HBK := Lib.hid hbe
    have HBE := Lib.hid (HB2.out.trans (hbe.mono HB2.out.size))
    have HXE := Lib.hid (HX2.out.later hbe)
    clear hbi hbe
    obtain ⟨x0, x1, xf, xz⟩ := HXE.out.v2
    obtain ⟨go, cgo, hgo, hgob, hgoz⟩ := HOWN.out.form (by rw [HHN.out]; exact HN0.out)
    rw [HHN.out] at hgo
    injection hgo with g1 g2 g3
    subst g1 g3
    clear g2
    have hgz : go < wr.heap.size := by have := HBK.out.size; omega
    by_cases hlt : k < nL
    rotate_left
    · obtain rfl : nL = k := by omega
      obtain ⟨_, hb1, hb2, _⟩ := HBI.out.resolve_left (fun h => by have := HN0.out; omega)
      have hbl : bi < LL.length := by rw [HNL.out]; exact hb1
      have hbh : bi < HL.length := by rw [HHN.out]; exact hb1
      have HOJ := Lib.hid (HIN.out bi hbh hbl)
      rw [List.getElem?_eq_getElem hbl] at hb2
      have hb2 := Option.some.inj hb2
      have HEQ := Lib.hid (show LL[bi] = (bestO f LL).1 by
        rw [hb2]; unfold bestK' bestO
        rw [List.take_of_length_le (by rw [HNL.out]; exact Nat.le_refl _)])
      have HLJ := Lib.hid (show LL[bi].length ≤ 1000 by rw [(HOK.out _ (List.getElem_mem hbl)).len]; omega)
      have c0 := (At.below (HOWN.out.atN HHN.out Hdp.enc_len bi hbh) HBK.out hgoz).c1
      rw [Nat.mul_one] at c0
      generalize HL[bi]'hbh = hd at *
      have HF := Lib.hid (show Sl encI 1 wr wr.heap.size hd.v (bestO f LL).1 by rw [← HEQ.out]; exact (HOJ.out.later HBK.out).toSl encI_len (by have := HLJ.out; omega))
      obtain ⟨ha, hn, hc⟩ := hd
      simp only [Hdp.v] at HF c0
      clear hb2
      go_wp2_with fail
      exact HQ.out _ _ HF.out HBE.out
    have hkl : k < LL.length := by rw [HNL.out]; exact hlt
    have hkh : k < HL.length := by rw [HHN.out]; exact hlt
    have HOJ := Lib.hid (HIN.out k hkh hkl)
    have HORD := Lib.hid (HOK.out _ (List.getElem_mem hkl))
    have HSC := Lib.hid (bestK'_succ f LL k hkl)
    have HSG := Lib.hid (List.getElem?_eq_getElem hkl)
    have c0 := (At.below (HOWN.out.atN HHN.out Hdp.enc_len k hkh) HBK.out hgoz).c1
    rw [Nat.mul_one] at c0
    generalize HL[k]'hkh = hd at *
    generalize LL[k]'hkl = lj at *
    have HSJ := Lib.hid (show Sl encI 1 wr wr.heap.size hd.v lj from (HOJ.out.later HBK.out).toSl encI_len (by rw [HORD.out.len]; omega))
    obtain ⟨ha, hn, hc⟩ := hd
    simp only [Hdp.v] at HSJ c0
    go_wp2_with fail
    refine (C76.out _ HBE.out _ lj HSJ.out HORD.out).mono ?_
    rintro e w3 ⟨v3, rfl, ht3, hb⟩
    have HB3 := Lib.hid (HBE.out.trans (hb.mono HBE.out.size))
    have HBK3 := Lib.hid (HBK.out.trans (hb.mono HBK.out.size))
    have HX3 := Lib.hid (HXE.out.later hb)
    have HT3 := Lib.hid ht3
    have HOT := Lib.hid (show TsOk p (ordT ts lj) from HK.out.ord (by rw [HNT.out]; exact HORD.out))
    have HLF := Lib.hid (HLN.out lj HORD.out)
    obtain ⟨hfl0, hfl1⟩ := HLE.out lj HORD.out
    obtain ⟨fl, hfl⟩ : ∃ x, f lj = x := ⟨_, rfl⟩
    rw [hfl] at HLF HSC hfl0 hfl1
    clear hb ht3 x0 x1 xf xz c0 hgz hfl
    obtain ⟨us, hus⟩ : ∃ l, ordT ts lj = l := ⟨_, rfl⟩
    rw [hus] at HT3 HOT HLF
    clear hus
    obtain ⟨x0, x1, xf, xz⟩ := HX3.out.v2
    obtain ⟨a3, c3, hv3, _⟩ := id HT3.out
    obtain ⟨n3, hn3⟩ : ∃ n, us.length = n := ⟨_, rfl⟩
    rw [hn3] at hv3
    subst hv3
    clear hn3
    have HSO := Lib.hid (show (stO p us).length ≤ 1000 by rw [stO_len]; have := HOT.out.n; omega)
    generalize wr = W5 at *
    go_wp2_with fail
    refine wp_region_partG 4 (fun i => i == 5 || i == 6) _ (fun v W' => Own encI 1 3 W' 0 v (stO p us)) (fun A v => ((A.put (some 30) v).put (some 31) (.int .i64 fl)).put (some 10) (.int .i64 fl)) (by kernel_rfl) (by kernel_rfl) rfl (fun v u u' h hb => h.later hb) ?_
    apply Exists.intro
    refine ⟨fun Y => ?_, fun wa hwa => ?_, fun v wa hwa hD => ?_, fun v w6 hb6 hD => ?_⟩
    · simp only [selF, Nat.reduceBEq, Bool.not_true, Bool.not_false, Bool.and_true, Bool.and_false, Bool.or_false, Bool.or_true, Bool.false_or, Bool.true_or, Bool.false_eq_true, if_true, if_false, Nat.reduceAdd, Nat.zero_add]
      repeat go_big_quiet_step (fail)
      exact wpQuiet_nil rfl
    · refine ⟨57, _, ?_, (C57.out wa (HB3.out.trans (hwa.mono HB3.out.size)) _ us (HT3.out.later hwa) HOT.out).mono ?_⟩
      · go_simp
        first | done | rfl
      · rintro e w6 ⟨v6, rfl, ho6, hb6⟩
        exact ⟨v6, rfl, ho6.lower (Nat.zero_le _), hb6⟩
    · obtain ⟨a6, c6, e6⟩ := hD.shape
      have HSU := Lib.hid (hD.toSl encI_len (by have := HSO.out; omega))
      obtain ⟨n6, hn6⟩ : ∃ n, (stO p us).length = n := ⟨_, rfl⟩
      rw [hn6] at e6
      subst e6
      clear hn6
      have HK59 := Lib.hid (fun (X : Later wa) => by
        have h := C59.out X.w ((HB3.out.trans (hwa.mono HB3.out.size)).trans (X.h.mono (HB3.out.trans (hwa.mono HB3.out.size)).size)) _ _ us ((HT3.out.later hwa).later X.h) HOT.out (HSU.out.later X.h)
        rw [← HLF.out] at h
        exact h)
      simp only [selF, Nat.reduceBEq, Bool.not_true, Bool.not_false, Bool.and_true, Bool.and_false, Bool.or_false, Bool.or_true, Bool.false_or, Bool.true_or, Bool.false_eq_true, if_true, if_false, Nat.reduceAdd, Nat.zero_add, Act.put, List.setIfInBounds_toArray, List.set_cons_succ, List.set_cons_zero]
      repeat go_big_quiet_step ((go_at_call 59; exact Calls.later (HK59.out _)))
      exact wpQuiet_nil rfl
    simp only [Act.put, List.setIfInBounds_toArray, List.set_cons_succ, List.set_cons_zero]
    have HB6 := Lib.hid (HBK3.out.trans (hb6.mono HBK3.out.size))
    clear hb6 hD x0 x1 xf xz
    have hbi := HBI.out
    rcases hbi with ⟨rfl, rfl⟩ | ⟨h1, h2, h3, h4, h5⟩
    · have HV := Lib.hid (show bestK' f LL (0 + 1) = (lj, fl) from by rw [HSC.out]; exact if_pos (.inl (by show (-1 : Int) < 0; omega)))
      have hb0 : (bestK' f LL 0).2 = -1 := rfl
      rw [hb0]
      go_wp2_with fail
      go_roundw
      case rel => exact ⟨1, 0, by omega, by go_num, rfl, by rw [show (1 : Nat) = 0 + 1 from rfl, HV.out], .inr ⟨by omega, by omega, by rw [show (1 : Nat) = 0 + 1 from rfl, HV.out]; exact HSG.out, by rw [show (1 : Nat) = 0 + 1 from rfl, HV.out]; exact hfl0, by rw [show (1 : Nat) = 0 + 1 from rfl, HV.out]; exact hfl1⟩, HB6.out⟩
      case measure => simp [intOf]; omega
    · have HB5 := Lib.hid h3
      clear h3
      obtain ⟨y, hy⟩ : ∃ y, bestK' f LL k = y := ⟨_, rfl⟩
      rw [hy] at HSC HB5 h4 h5 ⊢
      obtain ⟨y1, y2⟩ := y
      dsimp only at HSC HB5 h4 h5 ⊢
      have d1 : decide (y2 < 0) = false := decide_eq_false (by omega)
      by_cases hc : fl < y2
      · have d2 : decide (fl < y2) = true := decide_eq_true hc
        have HV := Lib.hid (show bestK' f LL (k + 1) = (lj, fl) from by rw [HSC.out]; exact if_pos (.inr hc))
        clear hy HSC
        go_wp2_with fail
        go_roundw
        case rel => exact ⟨k + 1, k, by omega, by go_num, rfl, by rw [HV.out], .inr ⟨by omega, hlt, by rw [HV.out]; exact HSG.out, by rw [HV.out]; exact hfl0, by rw [HV.out]; exact hfl1⟩, HB6.out⟩
        case measure => simp [intOf]; omega
      · have d2 : decide (fl < y2) = false := decide_eq_false hc
        have HV := Lib.hid (show bestK' f LL (k + 1) = (y1, y2) from by rw [HSC.out]; exact if_neg (by omega))
        clear hy HSC
        go_wp2_with fail
        go_roundw
        case rel => exact ⟨k + 1, bi, by omega, by go_num, rfl, by rw [HV.out], .inr ⟨by omega, h2, by rw [HV.out]; exact HB5.out, by rw [HV.out]; exact h4, by rw [HV.out]; exact h5⟩, HB6.out⟩
        case measure => simp [intOf]; omega
end Go.Proofs.YtahpdkkpnkhnhaaGreatDoor
/- Walks: slices.Clone and slices.Clip at lists of numbers; the memory of the search for the best order. -/
namespace Go.Proofs.YtahpdkkpnkhnhaaGreatDoor
open Go Go.Proofs Go.RowKit Go.Shelf
set_option maxRecDepth 100000 in
set_option maxHeartbeats 1000000 in
theorem clone129 (w : World) (v : Value) (l : List Int) (hv : Sl encI 1 w w.heap.size v l) : Calls Tryz.prog 129 #[v] w (BehPost w l) := by
  obtain ⟨a, n, rfl, ⟨hl, _⟩, hA⟩ := hv
  have hq := fun (w : World) (a : Option Addr) (m n : Nat) => Lib.run_eql_slice_nil w 26 3 a m n 0 0 Tryz.underlying26
  go_enter Tryz.func129, Tryz.ntmps129
  cases a with
  | none =>
    have h0 : l = [] := by
      cases l with
      | nil => rfl
      | cons x l => obtain ⟨b, off, h, _⟩ := hA (by simp); cases h
    subst h0
    go_wp2_with fail
    go_ret
    exact ⟨_, rfl, Own.nil _ _ _ _ _, Below.refl _ _⟩
  | some p =>
    have HAT := Lib.hid (show ∀ i (h : i < l.length), ∀ j u, (encI l[i])[j]? = some u → (w.alloc (.cells #[] 3)).cell? (p.add (i * 1 + j)) = some u from by
      intro i h j u hu
      obtain ⟨b, off, e, hb, hc⟩ := hA (by omega)
      cases e
      have h1 := ((hc i h).below ((Below.refl w.heap.size w).alloc (Nat.le_refl _) (.cells #[] 3)) hb) j u hu
      rw [Addr.add_lit, ← Nat.add_assoc]
      exact h1)
    clear hA
    go_wp2_with (at_builtin; refine wpList_cat encI 1 8 26 3 _ Tryz.underlying26 infoI rfl (by decide) (by decide) encI_len encI_one [] l w.heap.size (w.alloc (.cells #[] 3)) (.slice (some ⟨w.heap.size, 0, none⟩) 0 0) (Own.lit (l := []) encI_len 3 w #[] 0 _ rfl rfl (by simp) (Nat.le_refl _)) (by simp) (by simp; omega) p n HAT.out rfl _ _ rfl rfl rfl ?_; intro v' w' hown' hg')
    go_ret
    refine ⟨_, rfl, by simpa using hown', ?_⟩
    exact ((Below.refl w.heap.size w).alloc (Nat.le_refl _) (.cells #[] 3)).grown hg' (by simp) fun j hj => by
      have : w.heap.size = j := Option.some.inj hj
      omega
set_option maxRecDepth 100000 in
set_option maxHeartbeats 1000000 in
theorem clip130 (w : World) (a : Option Addr) (n c : Nat) (hn : n ≤ c) (ha : a = none → n = 0 ∧ c = 0) (hc : n ≤ 1000000000) : Calls Tryz.prog 130 #[.slice a n c] w (fun e w' => e = .returned (.slice a n n) ∧ w = w') := by
  go_enter Tryz.func130, Tryz.ntmps130
  cases a with
  | none =>
    obtain ⟨rfl, rfl⟩ := ha rfl
    go_wp2_with fail
    go_ret
    exact ⟨rfl, rfl⟩
  | some p =>
    have h1 : (n : Int) ≤ (c : Int) := by omega
    obtain ⟨b, off, sp⟩ := p
    go_wp2_with fail
    go_ret
    exact ⟨rfl, rfl⟩
def AwayS (v : Value) (ql qb : Nat) : Prop := ∀ k, v.ownBlock = some k → k ≠ ql ∧ k ≠ qb
theorem Sl.keptA {f : Int → List Value} {sz : Nat} {w w' : World} {v : Value} {l : List Int} {ql qb : Nat} (h : Sl f sz w w.heap.size v l) (hk : Kept (fun k => k = ql ∨ k = qb) w w') (ha : AwayS v ql qb) : Sl f sz w' w'.heap.size v l := by
  obtain ⟨a, c, rfl, hl, hA⟩ := h
  refine ⟨a, c, rfl, hl, fun h0 => ?_⟩
  obtain ⟨b, off, rfl, hb, hc⟩ := hA h0
  refine ⟨b, off, rfl, Nat.lt_of_lt_of_le hb hk.size, fun i hi j u hu => ?_⟩
  have hne := ha b rfl
  rw [← hc i hi j u hu]
  have := hk.block b hb (fun h => by rcases h with h | h; exact hne.1 h; exact hne.2 h)
  simp only [World.cell?, this]
structure TrM (w W : World) (qt qp ql qb qy : Nat) (u v1 v2 : Value) (s : List Int × Int) : Prop where
  bt : Box W qt 73 [u]
  bp : Box W qp 25 [v1, v2]
  bl : Box W ql 3 [.int .i64 s.2]
  bb : ∃ v, Box W qb 26 [v] ∧ Sl encI 1 W W.heap.size v s.1 ∧ AwayS v ql qb
  bf : Box W qy 122 [.func (.func 128) #[] #[.pointer (some ⟨qt, 0, none⟩), .pointer (some ⟨qp, 0, none⟩), .pointer (some ⟨ql, 0, none⟩), .pointer (some ⟨qb, 0, none⟩), .pointer (some ⟨qy, 0, none⟩)]]
  n1 : qt ≠ ql ∧ qt ≠ qb
  n2 : qp ≠ ql ∧ qp ≠ qb
  n3 : qy ≠ ql ∧ qy ≠ qb
  n4 : ql ≠ qb
  lo : w.heap.size ≤ ql ∧ w.heap.size ≤ qb
  bw : Below w.heap.size w W
section
variable {w W W' : World} {qt qp ql qb qy : Nat} {u v1 v2 : Value} {s : List Int × Int}
theorem TrM.later (h : TrM w W qt qp ql qb qy u v1 v2 s) (hb : Below W.heap.size W W') : TrM w W' qt qp ql qb qy u v1 v2 s := by
  obtain ⟨v, k1, k2, k3⟩ := h.bb
  exact ⟨h.bt.later hb, h.bp.later hb, h.bl.later hb, ⟨v, k1.later hb, k2.later hb, k3⟩, h.bf.later hb, h.n1, h.n2, h.n3, h.n4, h.lo, h.bw.trans (hb.mono h.bw.size)⟩
theorem TrM.put (h : TrM w W qt qp ql qb qy u v1 v2 s) {l : List Int} {x : Int} {v : Value} (hs : Sl encI 1 W W.heap.size v l) (ha : AwayS v ql qb) :
    TrM w ((W.setCell ⟨ql, 0, none⟩ (.int .i64 x)).setCell ⟨qb, 0, none⟩ v) qt qp ql qb qy u v1 v2 (l, x) ∧ Kept (fun k => k = ql ∨ k = qb) W ((W.setCell ⟨ql, 0, none⟩ (.int .i64 x)).setCell ⟨qb, 0, none⟩ v) := by
  obtain ⟨v0, k1, _, _⟩ := h.bb
  have hk : Kept (fun k => k = ql ∨ k = qb) W ((W.setCell ⟨ql, 0, none⟩ (.int .i64 x)).setCell ⟨qb, 0, none⟩ v) := ((Kept.refl _ W).set _ (.inl (.inl rfl))).set _ (.inl (.inr rfl))
  have hl := h.lo
  have h1 := h.n1
  have h2 := h.n2
  have h3 := h.n3
  have h4 := h.n4
  refine ⟨⟨?_, ?_, ?_, ⟨v, ?_, hs.keptA hk ha, ha⟩, ?_, h.n1, h.n2, h.n3, h.n4, h.lo, ?_⟩, hk⟩
  · exact (h.bt.other _ (by dsimp only; omega)).other _ (by dsimp only; omega)
  · exact (h.bp.other _ (by dsimp only; omega)).other _ (by dsimp only; omega)
  · exact (h.bl.set 0 (.int .i64 x)).other _ (by dsimp only; omega)
  · exact (k1.other _ (by dsimp only; omega)).set 0 v
  · exact (h.bf.other _ (by dsimp only; omega)).other _ (by dsimp only; omega)
  · exact (h.bw.setCell hl.1 _).setCell hl.2 _
end
def TrP (w W : World) (qt qp ql qb qy : Nat) (u v1 v2 : Value) (s : List Int × Int) (e : Ending) (w' : World) : Prop :=
  e = .returned (.tuple #[]) ∧ TrM w w' qt qp ql qb qy u v1 v2 s ∧ Kept (fun k => k = ql ∨ k = qb) W w'
end Go.Proofs.YtahpdkkpnkhnhaaGreatDoor
/- Walks: the search for the best order, at an order of all tasks. -/
namespace Go.Proofs.YtahpdkkpnkhnhaaGreatDoor
open Go Go.Proofs Go.RowKit Go.Shelf
theorem sch113' (w : World) (v1 v2 u : Value) (p : Pl) (us : List Tk) (hv : PlR w w.heap.size v1 v2 p) (hu : TasksR w w.heap.size u us) (hk : TsOk p us) :
    Calls Tryz.prog 113 #[.agg #[v1, v2], u] w fun e w' => ∃ v, e = .returned v ∧ Own encI 1 3 w' w.heap.size v (stO p us) ∧ Below w.heap.size w w' :=
  (schedule113 w v1 v2 u p us hv hu hk.pk hk.t hk.n).mono fun e w' ⟨v, outs, h1, h2, h3, h4, h5⟩ => ⟨v, h1, by rw [← stO_eq h4 h3]; exact h2, h5⟩
set_option maxRecDepth 100000 in
set_option maxHeartbeats 2000000 in
theorem tryEnd128 (w W : World) (qt qp ql qb qy : Nat) (u v1 v2 vo : Value) (p : Pl) (ts : List Tk) (s : List Int × Int) (l : List Int) (hv : PlR w w.heap.size v1 v2 p) (hu : TasksR w w.heap.size u ts) (hk : TsOk p ts)
    (hm : TrM w W qt qp ql qb qy u v1 v2 s) (hs : Sl encI 1 W W.heap.size vo l) (hl : OrdK ts.length ts.length l) (hb2 : -1 ≤ s.2 ∧ s.2 ≤ 1010000000) :
    Calls Tryz.prog 128 #[vo, .pointer (some ⟨qt, 0, none⟩), .pointer (some ⟨qp, 0, none⟩), .pointer (some ⟨ql, 0, none⟩), .pointer (some ⟨qb, 0, none⟩), .pointer (some ⟨qy, 0, none⟩)] W (TrP w W qt qp ql qb qy u v1 v2 (updO (lenO p ts) s l)) := by
  obtain ⟨Q, hQ⟩ : ∃ Q, TrP w W qt qp ql qb qy u v1 v2 (updO (lenO p ts) s l) = Q := ⟨_, rfl⟩
  rw [hQ]
  have HQ : Hid (∀ (w' : World), TrM w w' qt qp ql qb qy u v1 v2 (updO (lenO p ts) s l) → Kept (fun k => k = ql ∨ k = qb) W w' → Q (.returned (.tuple #[])) w') := Lib.hid (fun w' h1 h2 => by rw [← hQ]; exact ⟨rfl, h1, h2⟩)
  clear hQ
  have C113 := Lib.hid (fun (w1 : World) (hb : Below w.heap.size w w1) (v : Value) (us : List Tk) (hs : TasksR w1 w1.heap.size v us) (hk : TsOk p us) => sch113' w1 v1 v2 v p us (hv.later hb) hs hk)
  have C115 := Lib.hid (fun (w1 : World) (hb : Below w.heap.size w w1) (v x : Value) (us : List Tk) (hs : TasksR w1 w1.heap.size v us) (hk : TsOk p us) (hx : Sl encI 1 w1 w1.heap.size x (stO p us)) => length115 w1 v1 v2 v x p us (stO p us) (hv.later hb) hs hx hk.pk hk.t (stO_len p us) (stO_bd hk))
  have HOT := Lib.hid (hk.ord hl)
  have HLF := Lib.hid (show lenO p ts l = lenT p (ordT ts l) (stO p (ordT ts l)) (ordT ts l).length from rfl)
  have hfb : 0 ≤ lenO p ts l ∧ lenO p ts l ≤ 1010000000 := lenF_nn (hk.ord hl)
  have HTM := Lib.hid hm
  have HUP := Lib.hid (show updO (lenO p ts) s l = if s.2 < 0 ∨ lenO p ts l < s.2 then (l, lenO p ts l) else s from rfl)
  have C129 := Lib.hid (fun (w1 : World) (hb : Below W.heap.size W w1) => clone129 w1 vo l (hs.later hb))
  have HBW := Lib.hid hm.bw
  obtain ⟨LH, hLH, hsl, hhr⟩ := hu.heads
  have HMP := Lib.hid (show (ordH LH l).map TkH.t = ordT ts l by rw [ordH_map, hLH])
  have HIN := Lib.hid (show ∀ x ∈ l, 0 ≤ x ∧ x < (LH.length : Int) by
    have := hl.ins
    rw [← hLH, List.length_map] at this
    exact this)
  have HHR := Lib.hid (fun (w1 : World) (hb : Below w.heap.size w w1) (v : Value) (ho : Own TkH.enc 3 114 w1 W.heap.size v (ordH LH l)) => show TasksR w1 w1.heap.size v (ordT ts l) from by
    have h := heads_tasks (ho.toSl TkH.enc_len (by unfold ordH; rw [List.length_map, hl.len]; have := hk.n; omega)) (fun h hh => (hhr h (ordH_mem HIN.out h hh)).later hb)
    rw [HMP.out] at h
    exact h)
  have hlen := hl.len
  have h16 := hk.n
  have hnt : LH.length = ts.length := by rw [← hLH, List.length_map]
  obtain ⟨a1, n1, a2, n2, rfl, rfl⟩ := hv.agg
  obtain ⟨au, cu, rfl, hlu, hAu⟩ := hsl
  obtain ⟨ao, co, rfl, hlo, hAo⟩ := hs
  have HAu := Lib.hid hAu
  have HAo := Lib.hid hAo
  have HNH := Lib.hid hnt
  have HLL := Lib.hid hlen
  obtain ⟨f, hf⟩ : ∃ f, lenO p ts l = f := ⟨_, rfl⟩
  rw [hf] at HLF hfb HUP
  obtain ⟨s', hs'⟩ : ∃ x, updO (lenO p ts) s l = x := ⟨_, rfl⟩
  rw [hs'] at HUP HQ
  obtain ⟨us, hus⟩ : ∃ x, ordT ts l = x := ⟨_, rfl⟩
  rw [hus] at HOT HLF HHR
  obtain ⟨n, hn⟩ : ∃ n, p.ms.length = n := ⟨_, rfl⟩
  obtain ⟨m, hm'⟩ : ∃ n, p.arcs.length = n := ⟨_, rfl⟩
  obtain ⟨nt, hnt2⟩ : ∃ n, ts.length = n := ⟨_, rfl⟩
  rw [hlen] at hlo C129 ⊢
  rw [hnt] at hlu HTM HQ
  rw [hn] at C113 C115 HTM HQ
  rw [hm'] at C113 C115 HTM HQ
  rw [hnt2] at hlu HNH h16 HTM HQ HLL C129 hlo ⊢
  clear hv hu hk hm hl hhr hAu hAo hLH hnt hf hn hm' hnt2 hlen hs' hus HMP
  obtain ⟨t0, tf, tz⟩ := HTM.out.bt.v1
  have HT : Hid (Tryz.prog.underlying 73 = some (.slice 114)) := Lib.hid Tryz.underlying73
  have hI := Lib.hid infoTk
  go_enter Tryz.func128, Tryz.ntmps128
  go_wp2_with fail
  go_step3
  go_wp2_with fail
  clear t0 tf tz
  go_loopw [7, 21] (fun v i wr => ∃ k : Nat, k ≤ nt ∧ i = .int .i64 k ∧ Own TkH.enc 3 114 wr W.heap.size v (ordH LH (l.take k)) ∧ Below W.heap.size W wr) (fun _ i _ => nt - (intOf i).toNat)
  case atStart => exact ⟨0, by omega, rfl, Own.nil _ _ _ _ _, Below.refl _ _⟩
  case round =>
    obtain ⟨k, hk, rfl, hown, hbe⟩ := hrel
    have HOV := Lib.hid hown
    have HBE := Lib.hid hbe
    have HTM1 := Lib.hid (HTM.out.later hbe)
    have HBB := Lib.hid (HBW.out.trans (hbe.mono HBW.out.size))
    clear hown hbe
    obtain ⟨t0, tf, tz⟩ := HTM1.out.bt.v1
    by_cases hlt : k < nt
    · have hkl : k < l.length := by rw [HLL.out]; exact hlt
      obtain ⟨b2, o2, rfl, hbb2, hc2⟩ := HAo.out (by omega)
      have l0 := ((hc2 k hkl).below HBE.out hbb2).c1
      rw [Nat.mul_one] at l0
      have hb2z : b2 < wr.heap.size := Nat.lt_of_lt_of_le hbb2 HBE.out.size
      obtain ⟨h1, h2⟩ := HIN.out _ (List.getElem_mem hkl)
      obtain ⟨j, hj⟩ : ∃ j : Nat, l[k] = (j : Int) := ⟨l[k].toNat, by omega⟩
      have hjl : j < LH.length := by omega
      have HTK := Lib.hid (ordH_take LH l k hkl j hj hjl)
      rw [hj] at l0
      obtain ⟨b1, o1, rfl, hbb1, hc1⟩ := HAu.out (by omega)
      obtain ⟨q0, q1, q2⟩ := ((hc1 j hjl).below HBB.out hbb1).c3
      have hb1z : b1 < wr.heap.size := Nat.lt_of_lt_of_le hbb1 HBB.out.size
      have HLK : Hid ((ordH LH (l.take k)).length ≤ 1000000) := Lib.hid (by unfold ordH; rw [List.length_map, List.length_take]; omega)
      have hjn : (j : Int) < (nt : Int) := by rw [← HNH.out]; omega
      clear hc1 hc2 h1 h2 hj
      generalize LH[j] = x at *
      obtain ⟨xa, xc, xt⟩ := x
      dsimp only at q0 q1 q2
      go_wp2_with (at_builtin; refine wpList_push TkH.enc 3 48 73 114 _ HT.out hI.out rfl (by decide) (by decide) TkH.enc_len TkH.enc_one _ (⟨xa, xc, xt⟩ : TkH) W.heap.size wr _ rfl _ HOV.out HBE.out.size HLK.out rfl _ _ rfl rfl rfl ?_; intro v' w' hown' hg'; have HOW := Lib.hid hown'; have HGR := Lib.hid (grown_below HBE.out hg' HBE.out.size (HOV.out.lt') (Nat.le_refl _)); clear hown' hg')
      go_roundw
      case rel => exact ⟨k + 1, by omega, by go_num, by rw [HTK.out]; exact HOW.out, HGR.out⟩
      case measure => simp [intOf]; omega
    obtain rfl : nt = k := by omega
    have HOF := Lib.hid (show Own TkH.enc 3 114 wr W.heap.size _ (ordH LH l) from by
      have h := HOV.out
      rw [List.take_of_length_le (by rw [HLL.out]; omega)] at h
      exact h)
    have HTS := Lib.hid (HHR.out wr HBB.out _ HOF.out)
    clear HOF HOV HHR hlt
    obtain ⟨a3, c3, hv3, _⟩ := id HTS.out
    obtain ⟨n3, hn3⟩ : ∃ n, us.length = n := ⟨_, rfl⟩
    rw [hn3] at hv3
    subst hv3
    clear hn3
    obtain ⟨p0, p1, pf, pz⟩ := HTM1.out.bp.v2
    have HSO := Lib.hid (show (stO p us).length ≤ 1000 by rw [stO_len]; have := HOT.out.n; omega)
    generalize wr = W5 at *
    go_wp2_with fail
    refine wp_region_partG 4 (fun i => i == 5 || i == 6) _ (fun v W' => Own encI 1 3 W' 0 v (stO p us)) (fun A v => ((A.put (some 37) v).put (some 38) (.int .i64 f)).put (some 10) (.int .i64 f)) (by kernel_rfl) (by kernel_rfl) rfl (fun v u u' h hb => h.later hb) ?_
    apply Exists.intro
    refine ⟨fun Y => ?_, fun wa hwa => ?_, fun v wa hwa hD => ?_, fun v w6 hb6 hD => ?_⟩
    · simp only [selF, Nat.reduceBEq, Bool.not_true, Bool.not_false, Bool.and_true, Bool.and_false, Bool.or_false, Bool.or_true, Bool.false_or, Bool.true_or, Bool.false_eq_true, if_true, if_false, Nat.reduceAdd, Nat.zero_add]
      repeat go_big_quiet_step (fail)
      exact wpQuiet_nil rfl
    · refine ⟨113, _, ?_, (C113.out wa (HBB.out.trans (hwa.mono HBB.out.size)) _ us (HTS.out.later hwa) HOT.out).mono ?_⟩
      · go_simp
        first | done | rfl
      · rintro e w6 ⟨v6, rfl, ho6, hb6⟩
        exact ⟨v6, rfl, ho6.lower (Nat.zero_le _), hb6⟩
    · obtain ⟨a6, c6, e6⟩ := hD.shape
      have HSU := Lib.hid (hD.toSl encI_len (by have := HSO.out; omega))
      obtain ⟨n6, hn6⟩ : ∃ n, (stO p us).length = n := ⟨_, rfl⟩
      rw [hn6] at e6
      subst e6
      clear hn6
      have HK115 := Lib.hid (fun (X : Later wa) => by
        have h := C115.out X.w ((HBB.out.trans (hwa.mono HBB.out.size)).trans (X.h.mono (HBB.out.trans (hwa.mono HBB.out.size)).size)) _ _ us ((HTS.out.later hwa).later X.h) HOT.out (HSU.out.later X.h)
        rw [← HLF.out] at h
        exact h)
      simp only [selF, Nat.reduceBEq, Bool.not_true, Bool.not_false, Bool.and_true, Bool.and_false, Bool.or_false, Bool.or_true, Bool.false_or, Bool.true_or, Bool.false_eq_true, if_true, if_false, Nat.reduceAdd, Nat.zero_add, Act.put, List.setIfInBounds_toArray, List.set_cons_succ, List.set_cons_zero]
      repeat go_big_quiet_step ((go_at_call 115; exact Calls.later (HK115.out _)))
      exact wpQuiet_nil rfl
    simp only [Act.put, List.setIfInBounds_toArray, List.set_cons_succ, List.set_cons_zero]
    have HTM6 := Lib.hid (HTM1.out.later hb6)
    have HBE6 := Lib.hid (HBE.out.trans (hb6.mono HBE.out.size))
    clear hb6 hD p0 p1 pf pz t0 tf tz HTM1 HBE HBB HTS HSO C113 C115 HTM
    obtain ⟨b0, bf, bz⟩ := HTM6.out.bl.v1
    by_cases hc : s.2 < 0 ∨ f < s.2
    · have HV := Lib.hid (show s' = (l, f) from by rw [HUP.out]; exact if_pos hc)
      have hcase : decide (s.2 < 0) = true ∨ (decide (s.2 < 0) = false ∧ decide (f < s.2) = true) := by
        by_cases h0 : s.2 < 0
        · exact .inl (decide_eq_true h0)
        · exact .inr ⟨decide_eq_false h0, decide_eq_true (hc.resolve_left h0)⟩
      have fin : ∀ v7 w7, Own encI 1 3 w7 w6.heap.size v7 l → Below w6.heap.size w6 w7 → Q (.returned (.tuple #[])) ((w7.setCell ⟨ql, 0, none⟩ (.int .i64 f)).setCell ⟨qb, 0, none⟩ v7) := fun v7 w7 h7 hb7 => by
        have hm7 := HTM6.out.later hb7
        have hq1 := HTM6.out.bl.lt
        obtain ⟨_, hq2, _⟩ := HTM6.out.bb
        have hq2 := hq2.lt
        obtain ⟨k1, k2⟩ := hm7.put (l := l) (x := f) (h7.toSl encI_len (by rw [HLL.out]; omega)) (fun k hk => by
          exact ⟨fun e => (Own.ne h7 hq1) (by rw [hk, e]), fun e => (Own.ne h7 hq2) (by rw [hk, e])⟩)
        refine HQ.out _ (by rw [HV.out]; exact k1) ?_
        exact ((Kept.refl _ W).below (HBE6.out.trans (hb7.mono HBE6.out.size))).trans k2
      have FIN := Lib.hid fin
      clear hc fin HUP
      rcases hcase with d1 | ⟨d1, d2⟩
      · go_wp2_with fail
        refine (C129.out _ HBE6.out).mono ?_
        rintro e w7 ⟨v7, rfl, ho7, hb7⟩
        obtain ⟨a7, c7, hv7⟩ := Own.shape ho7
        rw [HLL.out] at hv7
        subst hv7
        have HF := Lib.hid (FIN.out _ w7 ho7 hb7)
        have HTM7 := Lib.hid (HTM6.out.later hb7)
        clear b0 bf bz
        obtain ⟨b0, bf, bz⟩ := HTM7.out.bl.v1
        obtain ⟨vq, hq2, _⟩ := HTM7.out.bb
        obtain ⟨r0, rf, rz⟩ := (hq2.other (a := ⟨ql, 0, none⟩) (.int .i64 f) HTM7.out.n4).v1
        go_wp2_with fail
        (try rw [Exit.noGoto_ret])
        refine bodyPost_ret (results_none rfl _ _ _) rfl ?_
        exact HF.out
      · go_wp2_with fail
        refine (C129.out _ HBE6.out).mono ?_
        rintro e w7 ⟨v7, rfl, ho7, hb7⟩
        obtain ⟨a7, c7, hv7⟩ := Own.shape ho7
        rw [HLL.out] at hv7
        subst hv7
        have HF := Lib.hid (FIN.out _ w7 ho7 hb7)
        have HTM7 := Lib.hid (HTM6.out.later hb7)
        clear b0 bf bz
        obtain ⟨b0, bf, bz⟩ := HTM7.out.bl.v1
        obtain ⟨vq, hq2, _⟩ := HTM7.out.bb
        obtain ⟨r0, rf, rz⟩ := (hq2.other (a := ⟨ql, 0, none⟩) (.int .i64 f) HTM7.out.n4).v1
        go_wp2_with fail
        (try rw [Exit.noGoto_ret])
        refine bodyPost_ret (results_none rfl _ _ _) rfl ?_
        exact HF.out
    · have HV := Lib.hid (show s' = s from by rw [HUP.out]; exact if_neg hc)
      have d1 : decide (s.2 < 0) = false := decide_eq_false (fun h => hc (.inl h))
      have d2 : decide (f < s.2) = false := decide_eq_false (fun h => hc (.inr h))
      have HF := Lib.hid (HQ.out w6 (by rw [HV.out]; exact HTM6.out) ((Kept.refl _ W).below HBE6.out))
      clear hc HUP
      go_wp2_with fail
      (try rw [Exit.noGoto_ret])
      refine bodyPost_ret (results_none rfl _ _ _) rfl ?_
      exact HF.out
end Go.Proofs.YtahpdkkpnkhnhaaGreatDoor
