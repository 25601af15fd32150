/- Lemmas on the way to the law PathEarliest (part 6): Ui Uj Uk -/
import Derived.Test.YtahpdkkpnkhnhaaGreatDoorPathEarliestP05
import Derived.Test.YtahpdkkpnkhnhaaGreatDoorPathEarliestP01
import Derived.ArgAppend
import Derived.WalkMore
import Derived.Deep.LoopGhost
import Derived.Test.YtahpdkkpnkhnhaaGreatDoorLib19
import Derived.Deep.RegionLawGrows
import Derived.Maps.AppendAt
set_option linter.unusedVariables false
set_option linter.unusedSimpArgs false

/- Walks: slices.Clone and slices.Clip at lists of numbers; the memory of the search for the best order. -/
namespace Go.Proofs.YtahpdkkpnkhnhaaGreatDoor
open Go Go.Proofs Go.RowKit Go.Shelf
set_option maxRecDepth 100000 in
set_option maxHeartbeats 1000000 in
theorem clone129 (w : World) (v : Value) (l : List Int) (hv : Sl encI 1 w w.heap.size v l) : Calls Tryz.prog 129 #[v] w (BehPost w l) := by
  obtain ⟨a, n, rfl, ⟨hl, _⟩, hA⟩ := hv
  have hq := fun (w : World) (a : Option Addr) (m n : Nat) => Lib.run_eql_slice_nil w 26 3 a m n 0 0 Tryz.underlying26
  go_enter Tryz.func129, Tryz.ntmps129
  cases a with
  | none =>
    have h0 : l = [] := by
      cases l with
      | nil => rfl
      | cons x l => obtain ⟨b, off, h, _⟩ := hA (by simp); cases h
    subst h0
    go_wp2_with fail
    go_ret
    exact ⟨_, rfl, Own.nil _ _ _ _ _, Below.refl _ _⟩
  | some p =>
    have HAT := Lib.hid (show ∀ i (h : i < l.length), ∀ j u, (encI l[i])[j]? = some u → (w.alloc (.cells #[] 3)).cell? (p.add (i * 1 + j)) = some u from by
      intro i h j u hu
      obtain ⟨b, off, e, hb, hc⟩ := hA (by omega)
      cases e
      have h1 := ((hc i h).below ((Below.refl w.heap.size w).alloc (Nat.le_refl _) (.cells #[] 3)) hb) j u hu
      rw [Addr.add_lit, ← Nat.add_assoc]
      exact h1)
    clear hA
    go_wp2_with (at_builtin; refine wpList_cat encI 1 8 26 3 _ Tryz.underlying26 infoI rfl (by decide) (by decide) encI_len encI_one [] l w.heap.size (w.alloc (.cells #[] 3)) (.slice (some ⟨w.heap.size, 0, none⟩) 0 0) (Own.lit (l := []) encI_len 3 w #[] 0 _ rfl rfl (by simp) (Nat.le_refl _)) (by simp) (by simp; omega) p n HAT.out rfl _ _ rfl rfl rfl ?_; intro v' w' hown' hg')
    go_ret
    refine ⟨_, rfl, by simpa using hown', ?_⟩
    exact ((Below.refl w.heap.size w).alloc (Nat.le_refl _) (.cells #[] 3)).grown hg' (by simp) fun j hj => by
      have : w.heap.size = j := Option.some.inj hj
      omega
set_option maxRecDepth 100000 in
set_option maxHeartbeats 1000000 in
theorem clip130 (w : World) (a : Option Addr) (n c : Nat) (hn : n ≤ c) (ha : a = none → n = 0 ∧ c = 0) (hc : n ≤ 1000000000) : Calls Tryz.prog 130 #[.slice a n c] w (fun e w' => e = .returned (.slice a n n) ∧ w = w') := by
  go_enter Tryz.func130, Tryz.ntmps130
  cases a with
  | none =>
    obtain ⟨rfl, rfl⟩ := ha rfl
    go_wp2_with fail
    go_ret
    exact ⟨rfl, rfl⟩
  | some p =>
    have h1 : (n : Int) ≤ (c : Int) := by omega
    obtain ⟨b, off, sp⟩ := p
    go_wp2_with fail
    go_ret
    exact ⟨rfl, rfl⟩
def AwayS (v : Value) (ql qb : Nat) : Prop := ∀ k, v.ownBlock = some k → k ≠ ql ∧ k ≠ qb
theorem Sl.keptA {f : Int → List Value} {sz : Nat} {w w' : World} {v : Value} {l : List Int} {ql qb : Nat} (h : Sl f sz w w.heap.size v l) (hk : Kept (fun k => k = ql ∨ k = qb) w w') (ha : AwayS v ql qb) : Sl f sz w' w'.heap.size v l := by
  obtain ⟨a, c, rfl, hl, hA⟩ := h
  refine ⟨a, c, rfl, hl, fun h0 => ?_⟩
  obtain ⟨b, off, rfl, hb, hc⟩ := hA h0
  refine ⟨b, off, rfl, Nat.lt_of_lt_of_le hb hk.size, fun i hi j u hu => ?_⟩
  have hne := ha b rfl
  rw [← hc i hi j u hu]
  have := hk.block b hb (fun h => by rcases h with h | h; exact hne.1 h; exact hne.2 h)
  simp only [World.cell?, this]
structure TrM (w W : World) (qt qp ql qb qy : Nat) (u v1 v2 : Value) (s : List Int × Int) : Prop where
  bt : Box W qt 73 [u]
  bp : Box W qp 25 [v1, v2]
  bl : Box W ql 3 [.int .i64 s.2]
  bb : ∃ v, Box W qb 26 [v] ∧ Sl encI 1 W W.heap.size v s.1 ∧ AwayS v ql qb
  bf : Box W qy 122 [.func (.func 128) #[] #[.pointer (some ⟨qt, 0, none⟩), .pointer (some ⟨qp, 0, none⟩), .pointer (some ⟨ql, 0, none⟩), .pointer (some ⟨qb, 0, none⟩), .pointer (some ⟨qy, 0, none⟩)]]
  n1 : qt ≠ ql ∧ qt ≠ qb
  n2 : qp ≠ ql ∧ qp ≠ qb
  n3 : qy ≠ ql ∧ qy ≠ qb
  n4 : ql ≠ qb
  lo : w.heap.size ≤ ql ∧ w.heap.size ≤ qb
  bw : Below w.heap.size w W
section
variable {w W W' : World} {qt qp ql qb qy : Nat} {u v1 v2 : Value} {s : List Int × Int}
theorem TrM.later (h : TrM w W qt qp ql qb qy u v1 v2 s) (hb : Below W.heap.size W W') : TrM w W' qt qp ql qb qy u v1 v2 s := by
  obtain ⟨v, k1, k2, k3⟩ := h.bb
  exact ⟨h.bt.later hb, h.bp.later hb, h.bl.later hb, ⟨v, k1.later hb, k2.later hb, k3⟩, h.bf.later hb, h.n1, h.n2, h.n3, h.n4, h.lo, h.bw.trans (hb.mono h.bw.size)⟩
theorem TrM.put (h : TrM w W qt qp ql qb qy u v1 v2 s) {l : List Int} {x : Int} {v : Value} (hs : Sl encI 1 W W.heap.size v l) (ha : AwayS v ql qb) :
    TrM w ((W.setCell ⟨ql, 0, none⟩ (.int .i64 x)).setCell ⟨qb, 0, none⟩ v) qt qp ql qb qy u v1 v2 (l, x) ∧ Kept (fun k => k = ql ∨ k = qb) W ((W.setCell ⟨ql, 0, none⟩ (.int .i64 x)).setCell ⟨qb, 0, none⟩ v) := by
  obtain ⟨v0, k1, _, _⟩ := h.bb
  have hk : Kept (fun k => k = ql ∨ k = qb) W ((W.setCell ⟨ql, 0, none⟩ (.int .i64 x)).setCell ⟨qb, 0, none⟩ v) := ((Kept.refl _ W).set _ (.inl (.inl rfl))).set _ (.inl (.inr rfl))
  have hl := h.lo
  have h1 := h.n1
  have h2 := h.n2
  have h3 := h.n3
  have h4 := h.n4
  refine ⟨⟨?_, ?_, ?_, ⟨v, ?_, hs.keptA hk ha, ha⟩, ?_, h.n1, h.n2, h.n3, h.n4, h.lo, ?_⟩, hk⟩
  · exact (h.bt.other _ (by dsimp only; omega)).other _ (by dsimp only; omega)
  · exact (h.bp.other _ (by dsimp only; omega)).other _ (by dsimp only; omega)
  · exact (h.bl.set 0 (.int .i64 x)).other _ (by dsimp only; omega)
  · exact (k1.other _ (by dsimp only; omega)).set 0 v
  · exact (h.bf.other _ (by dsimp only; omega)).other _ (by dsimp only; omega)
  · exact (h.bw.setCell hl.1 _).setCell hl.2 _
end
def TrP (w W : World) (qt qp ql qb qy : Nat) (u v1 v2 : Value) (s : List Int × Int) (e : Ending) (w' : World) : Prop :=
  e = .returned (.tuple #[]) ∧ TrM w w' qt qp ql qb qy u v1 v2 s ∧ Kept (fun k => k = ql ∨ k = qb) W w'
end Go.Proofs.YtahpdkkpnkhnhaaGreatDoor
/- Walks: the search for the best order, at an order of all tasks. -/
namespace Go.Proofs.YtahpdkkpnkhnhaaGreatDoor
open Go Go.Proofs Go.RowKit Go.Shelf
theorem sch113' (w : World) (v1 v2 u : Value) (p : Pl) (us : List Tk) (hv : PlR w w.heap.size v1 v2 p) (hu : TasksR w w.heap.size u us) (hk : TsOk p us) :
    Calls Tryz.prog 113 #[.agg #[v1, v2], u] w fun e w' => ∃ v, e = .returned v ∧ Own encI 1 3 w' w.heap.size v (stO p us) ∧ Below w.heap.size w w' :=
  (schedule113 w v1 v2 u p us hv hu hk.pk hk.t hk.n).mono fun e w' ⟨v, outs, h1, h2, h3, h4, h5⟩ => ⟨v, h1, by rw [← stO_eq h4 h3]; exact h2, h5⟩
set_option maxRecDepth 100000 in
set_option maxHeartbeats 2000000 in
theorem tryEnd128 (w W : World) (qt qp ql qb qy : Nat) (u v1 v2 vo : Value) (p : Pl) (ts : List Tk) (s : List Int × Int) (l : List Int) (hv : PlR w w.heap.size v1 v2 p) (hu : TasksR w w.heap.size u ts) (hk : TsOk p ts)
    (hm : TrM w W qt qp ql qb qy u v1 v2 s) (hs : Sl encI 1 W W.heap.size vo l) (hl : OrdK ts.length ts.length l) (hb2 : -1 ≤ s.2 ∧ s.2 ≤ 1010000000) :
    Calls Tryz.prog 128 #[vo, .pointer (some ⟨qt, 0, none⟩), .pointer (some ⟨qp, 0, none⟩), .pointer (some ⟨ql, 0, none⟩), .pointer (some ⟨qb, 0, none⟩), .pointer (some ⟨qy, 0, none⟩)] W (TrP w W qt qp ql qb qy u v1 v2 (updO (lenO p ts) s l)) := by
  obtain ⟨Q, hQ⟩ : ∃ Q, TrP w W qt qp ql qb qy u v1 v2 (updO (lenO p ts) s l) = Q := ⟨_, rfl⟩
  rw [hQ]
  have HQ : Hid (∀ (w' : World), TrM w w' qt qp ql qb qy u v1 v2 (updO (lenO p ts) s l) → Kept (fun k => k = ql ∨ k = qb) W w' → Q (.returned (.tuple #[])) w') := Lib.hid (fun w' h1 h2 => by rw [← hQ]; exact ⟨rfl, h1, h2⟩)
  clear hQ
  have C113 := Lib.hid (fun (w1 : World) (hb : Below w.heap.size w w1) (v : Value) (us : List Tk) (hs : TasksR w1 w1.heap.size v us) (hk : TsOk p us) => sch113' w1 v1 v2 v p us (hv.later hb) hs hk)
  have C115 := Lib.hid (fun (w1 : World) (hb : Below w.heap.size w w1) (v x : Value) (us : List Tk) (hs : TasksR w1 w1.heap.size v us) (hk : TsOk p us) (hx : Sl encI 1 w1 w1.heap.size x (stO p us)) => length115 w1 v1 v2 v x p us (stO p us) (hv.later hb) hs hx hk.pk hk.t (stO_len p us) (stO_bd hk))
  have HOT := Lib.hid (hk.ord hl)
  have HLF := Lib.hid (show lenO p ts l = lenT p (ordT ts l) (stO p (ordT ts l)) (ordT ts l).length from rfl)
  have hfb : 0 ≤ lenO p ts l ∧ lenO p ts l ≤ 1010000000 := lenF_nn (hk.ord hl)
  have HTM := Lib.hid hm
  have HUP := Lib.hid (show updO (lenO p ts) s l = if s.2 < 0 ∨ lenO p ts l < s.2 then (l, lenO p ts l) else s from rfl)
  have C129 := Lib.hid (fun (w1 : World) (hb : Below W.heap.size W w1) => clone129 w1 vo l (hs.later hb))
  have HBW := Lib.hid hm.bw
  obtain ⟨LH, hLH, hsl, hhr⟩ := hu.heads
  have HMP := Lib.hid (show (ordH LH l).map TkH.t = ordT ts l by rw [ordH_map, hLH])
  have HIN := Lib.hid (show ∀ x ∈ l, 0 ≤ x ∧ x < (LH.length : Int) by
    have := hl.ins
    rw [← hLH, List.length_map] at this
    exact this)
  have HHR := Lib.hid (fun (w1 : World) (hb : Below w.heap.size w w1) (v : Value) (ho : Own TkH.enc 3 114 w1 W.heap.size v (ordH LH l)) => show TasksR w1 w1.heap.size v (ordT ts l) from by
    have h := heads_tasks (ho.toSl TkH.enc_len (by unfold ordH; rw [List.length_map, hl.len]; have := hk.n; omega)) (fun h hh => (hhr h (ordH_mem HIN.out h hh)).later hb)
    rw [HMP.out] at h
    exact h)
  have hlen := hl.len
  have h16 := hk.n
  have hnt : LH.length = ts.length := by rw [← hLH, List.length_map]
  obtain ⟨a1, n1, a2, n2, rfl, rfl⟩ := hv.agg
  obtain ⟨au, cu, rfl, hlu, hAu⟩ := hsl
  obtain ⟨ao, co, rfl, hlo, hAo⟩ := hs
  have HAu := Lib.hid hAu
  have HAo := Lib.hid hAo
  have HNH := Lib.hid hnt
  have HLL := Lib.hid hlen
  obtain ⟨f, hf⟩ : ∃ f, lenO p ts l = f := ⟨_, rfl⟩
  rw [hf] at HLF hfb HUP
  obtain ⟨s', hs'⟩ : ∃ x, updO (lenO p ts) s l = x := ⟨_, rfl⟩
  rw [hs'] at HUP HQ
  obtain ⟨us, hus⟩ : ∃ x, ordT ts l = x := ⟨_, rfl⟩
  rw [hus] at HOT HLF HHR
  obtain ⟨n, hn⟩ : ∃ n, p.ms.length = n := ⟨_, rfl⟩
  obtain ⟨m, hm'⟩ : ∃ n, p.arcs.length = n := ⟨_, rfl⟩
  obtain ⟨nt, hnt2⟩ : ∃ n, ts.length = n := ⟨_, rfl⟩
  rw [hlen] at hlo C129 ⊢
  rw [hnt] at hlu HTM HQ
  rw [hn] at C113 C115 HTM HQ
  rw [hm'] at C113 C115 HTM HQ
  rw [hnt2] at hlu HNH h16 HTM HQ HLL C129 hlo ⊢
  clear hv hu hk hm hl hhr hAu hAo hLH hnt hf hn hm' hnt2 hlen hs' hus HMP
  obtain ⟨t0, tf, tz⟩ := HTM.out.bt.v1
  have HT : Hid (Tryz.prog.underlying 73 = some (.slice 114)) := Lib.hid Tryz.underlying73
  have hI := Lib.hid infoTk
  go_enter Tryz.func128, Tryz.ntmps128
  go_wp2_with fail
  go_step3
  go_wp2_with fail
  clear t0 tf tz
  go_loopw [7, 21] (fun v i wr => ∃ k : Nat, k ≤ nt ∧ i = .int .i64 k ∧ Own TkH.enc 3 114 wr W.heap.size v (ordH LH (l.take k)) ∧ Below W.heap.size W wr) (fun _ i _ => nt - (intOf i).toNat)
  case atStart => exact ⟨0, by omega, rfl, Own.nil _ _ _ _ _, Below.refl _ _⟩
  case round =>
    obtain ⟨k, hk, rfl, hown, hbe⟩ := hrel
    have HOV := Lib.hid hown
    have HBE := Lib.hid hbe
    have HTM1 := Lib.hid (HTM.out.later hbe)
    have HBB := Lib.hid (HBW.out.trans (hbe.mono HBW.out.size))
    clear hown hbe
    obtain ⟨t0, tf, tz⟩ := HTM1.out.bt.v1
    by_cases hlt : k < nt
    · have hkl : k < l.length := by rw [HLL.out]; exact hlt
      obtain ⟨b2, o2, rfl, hbb2, hc2⟩ := HAo.out (by omega)
      have l0 := ((hc2 k hkl).below HBE.out hbb2).c1
      rw [Nat.mul_one] at l0
      have hb2z : b2 < wr.heap.size := Nat.lt_of_lt_of_le hbb2 HBE.out.size
      obtain ⟨h1, h2⟩ := HIN.out _ (List.getElem_mem hkl)
      obtain ⟨j, hj⟩ : ∃ j : Nat, l[k] = (j : Int) := ⟨l[k].toNat, by omega⟩
      have hjl : j < LH.length := by omega
      have HTK := Lib.hid (ordH_take LH l k hkl j hj hjl)
      rw [hj] at l0
      obtain ⟨b1, o1, rfl, hbb1, hc1⟩ := HAu.out (by omega)
      obtain ⟨q0, q1, q2⟩ := ((hc1 j hjl).below HBB.out hbb1).c3
      have hb1z : b1 < wr.heap.size := Nat.lt_of_lt_of_le hbb1 HBB.out.size
      have HLK : Hid ((ordH LH (l.take k)).length ≤ 1000000) := Lib.hid (by unfold ordH; rw [List.length_map, List.length_take]; omega)
      have hjn : (j : Int) < (nt : Int) := by rw [← HNH.out]; omega
      clear hc1 hc2 h1 h2 hj
      generalize LH[j] = x at *
      obtain ⟨xa, xc, xt⟩ := x
      dsimp only at q0 q1 q2
      go_wp2_with (at_builtin; refine wpList_push TkH.enc 3 48 73 114 _ HT.out hI.out rfl (by decide) (by decide) TkH.enc_len TkH.enc_one _ (⟨xa, xc, xt⟩ : TkH) W.heap.size wr _ rfl _ HOV.out HBE.out.size HLK.out rfl _ _ rfl rfl rfl ?_; intro v' w' hown' hg'; have HOW := Lib.hid hown'; have HGR := Lib.hid (grown_below HBE.out hg' HBE.out.size (HOV.out.lt') (Nat.le_refl _)); clear hown' hg')
      go_roundw
      case rel => exact ⟨k + 1, by omega, by go_num, by rw [HTK.out]; exact HOW.out, HGR.out⟩
      case measure => simp [intOf]; omega
    obtain rfl : nt = k := by omega
    have HOF := Lib.hid (show Own TkH.enc 3 114 wr W.heap.size _ (ordH LH l) from by
      have h := HOV.out
      rw [List.take_of_length_le (by rw [HLL.out]; omega)] at h
      exact h)
    have HTS := Lib.hid (HHR.out wr HBB.out _ HOF.out)
    clear HOF HOV HHR hlt
    obtain ⟨a3, c3, hv3, _⟩ := id HTS.out
    obtain ⟨n3, hn3⟩ : ∃ n, us.length = n := ⟨_, rfl⟩
    rw [hn3] at hv3
    subst hv3
    clear hn3
    obtain ⟨p0, p1, pf, pz⟩ := HTM1.out.bp.v2
    have HSO := Lib.hid (show (stO p us).length ≤ 1000 by rw [stO_len]; have := HOT.out.n; omega)
    generalize wr = W5 at *
    go_wp2_with fail
    refine wp_region_partG 4 (fun i => i == 5 || i == 6) _ (fun v W' => Own encI 1 3 W' 0 v (stO p us)) (fun A v => ((A.put (some 37) v).put (some 38) (.int .i64 f)).put (some 10) (.int .i64 f)) (by kernel_rfl) (by kernel_rfl) rfl (fun v u u' h hb => h.later hb) ?_
    apply Exists.intro
    refine ⟨fun Y => ?_, fun wa hwa => ?_, fun v wa hwa hD => ?_, fun v w6 hb6 hD => ?_⟩
    · simp only [selF, Nat.reduceBEq, Bool.not_true, Bool.not_false, Bool.and_true, Bool.and_false, Bool.or_false, Bool.or_true, Bool.false_or, Bool.true_or, Bool.false_eq_true, if_true, if_false, Nat.reduceAdd, Nat.zero_add]
      repeat go_big_quiet_step (fail)
      exact wpQuiet_nil rfl
    · refine ⟨113, _, ?_, (C113.out wa (HBB.out.trans (hwa.mono HBB.out.size)) _ us (HTS.out.later hwa) HOT.out).mono ?_⟩
      · go_simp
        first | done | rfl
      · rintro e w6 ⟨v6, rfl, ho6, hb6⟩
        exact ⟨v6, rfl, ho6.lower (Nat.zero_le _), hb6⟩
    · obtain ⟨a6, c6, e6⟩ := hD.shape
      have HSU := Lib.hid (hD.toSl encI_len (by have := HSO.out; omega))
      obtain ⟨n6, hn6⟩ : ∃ n, (stO p us).length = n := ⟨_, rfl⟩
      rw [hn6] at e6
      subst e6
      clear hn6
      have HK115 := Lib.hid (fun (X : Later wa) => by
        have h := C115.out X.w ((HBB.out.trans (hwa.mono HBB.out.size)).trans (X.h.mono (HBB.out.trans (hwa.mono HBB.out.size)).size)) _ _ us ((HTS.out.later hwa).later X.h) HOT.out (HSU.out.later X.h)
        rw [← HLF.out] at h
        exact h)
      simp only [selF, Nat.reduceBEq, Bool.not_true, Bool.not_false, Bool.and_true, Bool.and_false, Bool.or_false, Bool.or_true, Bool.false_or, Bool.true_or, Bool.false_eq_true, if_true, if_false, Nat.reduceAdd, Nat.zero_add, Act.put, List.setIfInBounds_toArray, List.set_cons_succ, List.set_cons_zero]
      repeat go_big_quiet_step ((go_at_call 115; exact Calls.later (HK115.out _)))
      exact wpQuiet_nil rfl
    simp only [Act.put, List.setIfInBounds_toArray, List.set_cons_succ, List.set_cons_zero]
    have HTM6 := Lib.hid (HTM1.out.later hb6)
    have HBE6 := Lib.hid (HBE.out.trans (hb6.mono HBE.out.size))
    clear hb6 hD p0 p1 pf pz t0 tf tz HTM1 HBE HBB HTS HSO C113 C115 HTM
    obtain ⟨b0, bf, bz⟩ := HTM6.out.bl.v1
    by_cases hc : s.2 < 0 ∨ f < s.2
    · have HV := Lib.hid (show s' = (l, f) from by rw [HUP.out]; exact if_pos hc)
      have hcase : decide (s.2 < 0) = true ∨ (decide (s.2 < 0) = false ∧ decide (f < s.2) = true) := by
        by_cases h0 : s.2 < 0
        · exact .inl (decide_eq_true h0)
        · exact .inr ⟨decide_eq_false h0, decide_eq_true (hc.resolve_left h0)⟩
      have fin : ∀ v7 w7, Own encI 1 3 w7 w6.heap.size v7 l → Below w6.heap.size w6 w7 → Q (.returned (.tuple #[])) ((w7.setCell ⟨ql, 0, none⟩ (.int .i64 f)).setCell ⟨qb, 0, none⟩ v7) := fun v7 w7 h7 hb7 => by
        have hm7 := HTM6.out.later hb7
        have hq1 := HTM6.out.bl.lt
        obtain ⟨_, hq2, _⟩ := HTM6.out.bb
        have hq2 := hq2.lt
        obtain ⟨k1, k2⟩ := hm7.put (l := l) (x := f) (h7.toSl encI_len (by rw [HLL.out]; omega)) (fun k hk => by
          exact ⟨fun e => (Own.ne h7 hq1) (by rw [hk, e]), fun e => (Own.ne h7 hq2) (by rw [hk, e])⟩)
        refine HQ.out _ (by rw [HV.out]; exact k1) ?_
        exact ((Kept.refl _ W).below (HBE6.out.trans (hb7.mono HBE6.out.size))).trans k2
      have FIN := Lib.hid fin
      clear hc fin HUP
      rcases hcase with d1 | ⟨d1, d2⟩
      · go_wp2_with fail
        refine (C129.out _ HBE6.out).mono ?_
        rintro e w7 ⟨v7, rfl, ho7, hb7⟩
        obtain ⟨a7, c7, hv7⟩ := Own.shape ho7
        rw [HLL.out] at hv7
        subst hv7
        have HF := Lib.hid (FIN.out _ w7 ho7 hb7)
        have HTM7 := Lib.hid (HTM6.out.later hb7)
        clear b0 bf bz
        obtain ⟨b0, bf, bz⟩ := HTM7.out.bl.v1
        obtain ⟨vq, hq2, _⟩ := HTM7.out.bb
        obtain ⟨r0, rf, rz⟩ := (hq2.other (a := ⟨ql, 0, none⟩) (.int .i64 f) HTM7.out.n4).v1
        go_wp2_with fail
        (try rw [Exit.noGoto_ret])
        refine bodyPost_ret (results_none rfl _ _ _) rfl ?_
        exact HF.out
      · go_wp2_with fail
        refine (C129.out _ HBE6.out).mono ?_
        rintro e w7 ⟨v7, rfl, ho7, hb7⟩
        obtain ⟨a7, c7, hv7⟩ := Own.shape ho7
        rw [HLL.out] at hv7
        subst hv7
        have HF := Lib.hid (FIN.out _ w7 ho7 hb7)
        have HTM7 := Lib.hid (HTM6.out.later hb7)
        clear b0 bf bz
        obtain ⟨b0, bf, bz⟩ := HTM7.out.bl.v1
        obtain ⟨vq, hq2, _⟩ := HTM7.out.bb
        obtain ⟨r0, rf, rz⟩ := (hq2.other (a := ⟨ql, 0, none⟩) (.int .i64 f) HTM7.out.n4).v1
        go_wp2_with fail
        (try rw [Exit.noGoto_ret])
        refine bodyPost_ret (results_none rfl _ _ _) rfl ?_
        exact HF.out
    · have HV := Lib.hid (show s' = s from by rw [HUP.out]; exact if_neg hc)
      have d1 : decide (s.2 < 0) = false := decide_eq_false (fun h => hc (.inl h))
      have d2 : decide (f < s.2) = false := decide_eq_false (fun h => hc (.inr h))
      have HF := Lib.hid (HQ.out w6 (by rw [HV.out]; exact HTM6.out) ((Kept.refl _ W).below HBE6.out))
      clear hc HUP
      go_wp2_with fail
      (try rw [Exit.noGoto_ret])
      refine bodyPost_ret (results_none rfl _ _ _) rfl ?_
      exact HF.out
end Go.Proofs.YtahpdkkpnkhnhaaGreatDoor
/- Walks: the search for the best order: the call with one task more. -/
namespace Go.Proofs.YtahpdkkpnkhnhaaGreatDoor
open Go Go.Proofs Go.RowKit Go.Shelf
def frT (vo uv : Value) (qt qp ql qb qy nl nt k : Nat) (z : Nat → Value) : List Value := [vo, .pointer (some ⟨qt, 0, none⟩), .pointer (some ⟨qp, 0, none⟩), .pointer (some ⟨ql, 0, none⟩), .pointer (some ⟨qb, 0, none⟩), .pointer (some ⟨qy, 0, none⟩), undef, undef, undef, undef, undef, .int .i64 k, undef, z 13, vo, .int .i64 nl, uv, .int .i64 nt, .bool false, undef, undef, undef, undef, undef, undef, undef, undef, undef, undef, undef, undef, undef, undef, undef, undef, undef, undef, undef, undef, undef, undef, undef, undef, undef, undef, undef, undef, undef, undef, uv, .int .i64 nt, .int .i64 k, z 52, z 53, z 54, z 55, z 56, z 57, z 58, z 59, z 60, z 61, z 62, z 63, z 64, z 65, z 66, z 67, z 68, z 69, z 70, z 71]
theorem frT_of (vo uv : Value) (qt qp ql qb qy nl nt k : Nat) (L : List Value) (hL : L.length = 72) (h0 : L[0]? = some (vo)) (h1 : L[1]? = some (.pointer (some ⟨qt, 0, none⟩))) (h2 : L[2]? = some (.pointer (some ⟨qp, 0, none⟩))) (h3 : L[3]? = some (.pointer (some ⟨ql, 0, none⟩))) (h4 : L[4]? = some (.pointer (some ⟨qb, 0, none⟩))) (h5 : L[5]? = some (.pointer (some ⟨qy, 0, none⟩))) (h6 : L[6]? = some (undef)) (h7 : L[7]? = some (undef)) (h8 : L[8]? = some (undef)) (h9 : L[9]? = some (undef)) (h10 : L[10]? = some (undef)) (h11 : L[11]? = some (.int .i64 k)) (h12 : L[12]? = some (undef)) (h14 : L[14]? = some (vo)) (h15 : L[15]? = some (.int .i64 nl)) (h16 : L[16]? = some (uv)) (h17 : L[17]? = some (.int .i64 nt)) (h18 : L[18]? = some (.bool false)) (h19 : L[19]? = some (undef)) (h20 : L[20]? = some (undef)) (h21 : L[21]? = some (undef)) (h22 : L[22]? = some (undef)) (h23 : L[23]? = some (undef)) (h24 : L[24]? = some (undef)) (h25 : L[25]? = some (undef)) (h26 : L[26]? = some (undef)) (h27 : L[27]? = some (undef)) (h28 : L[28]? = some (undef)) (h29 : L[29]? = some (undef)) (h30 : L[30]? = some (undef)) (h31 : L[31]? = some (undef)) (h32 : L[32]? = some (undef)) (h33 : L[33]? = some (undef)) (h34 : L[34]? = some (undef)) (h35 : L[35]? = some (undef)) (h36 : L[36]? = some (undef)) (h37 : L[37]? = some (undef)) (h38 : L[38]? = some (undef)) (h39 : L[39]? = some (undef)) (h40 : L[40]? = some (undef)) (h41 : L[41]? = some (undef)) (h42 : L[42]? = some (undef)) (h43 : L[43]? = some (undef)) (h44 : L[44]? = some (undef)) (h45 : L[45]? = some (undef)) (h46 : L[46]? = some (undef)) (h47 : L[47]? = some (undef)) (h48 : L[48]? = some (undef)) (h49 : L[49]? = some (uv)) (h50 : L[50]? = some (.int .i64 nt)) (h51 : L[51]? = some (.int .i64 k)) : ∃ z, L = frT vo uv qt qp ql qb qy nl nt k z := by
  refine ⟨fun i => L.getD i undef, ?_⟩
  unfold frT
  have e := list_range L 72 hL
  have e0 : L.getD 0 undef = vo := by rw [List.getD_eq_getElem?_getD, h0]; rfl
  have e1 : L.getD 1 undef = .pointer (some ⟨qt, 0, none⟩) := by rw [List.getD_eq_getElem?_getD, h1]; rfl
  have e2 : L.getD 2 undef = .pointer (some ⟨qp, 0, none⟩) := by rw [List.getD_eq_getElem?_getD, h2]; rfl
  have e3 : L.getD 3 undef = .pointer (some ⟨ql, 0, none⟩) := by rw [List.getD_eq_getElem?_getD, h3]; rfl
  have e4 : L.getD 4 undef = .pointer (some ⟨qb, 0, none⟩) := by rw [List.getD_eq_getElem?_getD, h4]; rfl
  have e5 : L.getD 5 undef = .pointer (some ⟨qy, 0, none⟩) := by rw [List.getD_eq_getElem?_getD, h5]; rfl
  have e6 : L.getD 6 undef = undef := by rw [List.getD_eq_getElem?_getD, h6]; rfl
  have e7 : L.getD 7 undef = undef := by rw [List.getD_eq_getElem?_getD, h7]; rfl
  have e8 : L.getD 8 undef = undef := by rw [List.getD_eq_getElem?_getD, h8]; rfl
  have e9 : L.getD 9 undef = undef := by rw [List.getD_eq_getElem?_getD, h9]; rfl
  have e10 : L.getD 10 undef = undef := by rw [List.getD_eq_getElem?_getD, h10]; rfl
  have e11 : L.getD 11 undef = .int .i64 k := by rw [List.getD_eq_getElem?_getD, h11]; rfl
  have e12 : L.getD 12 undef = undef := by rw [List.getD_eq_getElem?_getD, h12]; rfl
  have e14 : L.getD 14 undef = vo := by rw [List.getD_eq_getElem?_getD, h14]; rfl
  have e15 : L.getD 15 undef = .int .i64 nl := by rw [List.getD_eq_getElem?_getD, h15]; rfl
  have e16 : L.getD 16 undef = uv := by rw [List.getD_eq_getElem?_getD, h16]; rfl
  have e17 : L.getD 17 undef = .int .i64 nt := by rw [List.getD_eq_getElem?_getD, h17]; rfl
  have e18 : L.getD 18 undef = .bool false := by rw [List.getD_eq_getElem?_getD, h18]; rfl
  have e19 : L.getD 19 undef = undef := by rw [List.getD_eq_getElem?_getD, h19]; rfl
  have e20 : L.getD 20 undef = undef := by rw [List.getD_eq_getElem?_getD, h20]; rfl
  have e21 : L.getD 21 undef = undef := by rw [List.getD_eq_getElem?_getD, h21]; rfl
  have e22 : L.getD 22 undef = undef := by rw [List.getD_eq_getElem?_getD, h22]; rfl
  have e23 : L.getD 23 undef = undef := by rw [List.getD_eq_getElem?_getD, h23]; rfl
  have e24 : L.getD 24 undef = undef := by rw [List.getD_eq_getElem?_getD, h24]; rfl
  have e25 : L.getD 25 undef = undef := by rw [List.getD_eq_getElem?_getD, h25]; rfl
  have e26 : L.getD 26 undef = undef := by rw [List.getD_eq_getElem?_getD, h26]; rfl
  have e27 : L.getD 27 undef = undef := by rw [List.getD_eq_getElem?_getD, h27]; rfl
  have e28 : L.getD 28 undef = undef := by rw [List.getD_eq_getElem?_getD, h28]; rfl
  have e29 : L.getD 29 undef = undef := by rw [List.getD_eq_getElem?_getD, h29]; rfl
  have e30 : L.getD 30 undef = undef := by rw [List.getD_eq_getElem?_getD, h30]; rfl
  have e31 : L.getD 31 undef = undef := by rw [List.getD_eq_getElem?_getD, h31]; rfl
  have e32 : L.getD 32 undef = undef := by rw [List.getD_eq_getElem?_getD, h32]; rfl
  have e33 : L.getD 33 undef = undef := by rw [List.getD_eq_getElem?_getD, h33]; rfl
  have e34 : L.getD 34 undef = undef := by rw [List.getD_eq_getElem?_getD, h34]; rfl
  have e35 : L.getD 35 undef = undef := by rw [List.getD_eq_getElem?_getD, h35]; rfl
  have e36 : L.getD 36 undef = undef := by rw [List.getD_eq_getElem?_getD, h36]; rfl
  have e37 : L.getD 37 undef = undef := by rw [List.getD_eq_getElem?_getD, h37]; rfl
  have e38 : L.getD 38 undef = undef := by rw [List.getD_eq_getElem?_getD, h38]; rfl
  have e39 : L.getD 39 undef = undef := by rw [List.getD_eq_getElem?_getD, h39]; rfl
  have e40 : L.getD 40 undef = undef := by rw [List.getD_eq_getElem?_getD, h40]; rfl
  have e41 : L.getD 41 undef = undef := by rw [List.getD_eq_getElem?_getD, h41]; rfl
  have e42 : L.getD 42 undef = undef := by rw [List.getD_eq_getElem?_getD, h42]; rfl
  have e43 : L.getD 43 undef = undef := by rw [List.getD_eq_getElem?_getD, h43]; rfl
  have e44 : L.getD 44 undef = undef := by rw [List.getD_eq_getElem?_getD, h44]; rfl
  have e45 : L.getD 45 undef = undef := by rw [List.getD_eq_getElem?_getD, h45]; rfl
  have e46 : L.getD 46 undef = undef := by rw [List.getD_eq_getElem?_getD, h46]; rfl
  have e47 : L.getD 47 undef = undef := by rw [List.getD_eq_getElem?_getD, h47]; rfl
  have e48 : L.getD 48 undef = undef := by rw [List.getD_eq_getElem?_getD, h48]; rfl
  have e49 : L.getD 49 undef = uv := by rw [List.getD_eq_getElem?_getD, h49]; rfl
  have e50 : L.getD 50 undef = .int .i64 nt := by rw [List.getD_eq_getElem?_getD, h50]; rfl
  have e51 : L.getD 51 undef = .int .i64 k := by rw [List.getD_eq_getElem?_getD, h51]; rfl
  have e' : L = L.getD 0 undef :: L.getD 1 undef :: L.getD 2 undef :: L.getD 3 undef :: L.getD 4 undef :: L.getD 5 undef :: L.getD 6 undef :: L.getD 7 undef :: L.getD 8 undef :: L.getD 9 undef :: L.getD 10 undef :: L.getD 11 undef :: L.getD 12 undef :: L.getD 13 undef :: L.getD 14 undef :: L.getD 15 undef :: L.getD 16 undef :: L.getD 17 undef :: L.getD 18 undef :: L.getD 19 undef :: L.getD 20 undef :: L.getD 21 undef :: L.getD 22 undef :: L.getD 23 undef :: L.getD 24 undef :: L.getD 25 undef :: L.getD 26 undef :: L.getD 27 undef :: L.getD 28 undef :: L.getD 29 undef :: L.getD 30 undef :: L.getD 31 undef :: L.getD 32 undef :: L.getD 33 undef :: L.getD 34 undef :: L.getD 35 undef :: L.getD 36 undef :: L.getD 37 undef :: L.getD 38 undef :: L.getD 39 undef :: L.getD 40 undef :: L.getD 41 undef :: L.getD 42 undef :: L.getD 43 undef :: L.getD 44 undef :: L.getD 45 undef :: L.getD 46 undef :: L.getD 47 undef :: L.getD 48 undef :: L.getD 49 undef :: L.getD 50 undef :: L.getD 51 undef :: L.getD 52 undef :: L.getD 53 undef :: L.getD 54 undef :: L.getD 55 undef :: L.getD 56 undef :: L.getD 57 undef :: L.getD 58 undef :: L.getD 59 undef :: L.getD 60 undef :: L.getD 61 undef :: L.getD 62 undef :: L.getD 63 undef :: L.getD 64 undef :: L.getD 65 undef :: L.getD 66 undef :: L.getD 67 undef :: L.getD 68 undef :: L.getD 69 undef :: L.getD 70 undef :: L.getD 71 undef :: [] := e
  rw [e0, e1, e2, e3, e4, e5, e6, e7, e8, e9, e10, e11, e12, e14, e15, e16, e17, e18, e19, e20, e21, e22, e23, e24, e25, e26, e27, e28, e29, e30, e31, e32, e33, e34, e35, e36, e37, e38, e39, e40, e41, e42, e43, e44, e45, e46, e47, e48, e49, e50, e51] at e'
  exact e'
theorem frT_act (vo uv : Value) (qt qp ql qb qy nl nt k : Nat) (A : Act) (ds : List Deferred) (hds : A.defers = ds) (hL : A.tmps.size = 72) (h0 : A.tmps[0]? = some (vo)) (h1 : A.tmps[1]? = some (.pointer (some ⟨qt, 0, none⟩))) (h2 : A.tmps[2]? = some (.pointer (some ⟨qp, 0, none⟩))) (h3 : A.tmps[3]? = some (.pointer (some ⟨ql, 0, none⟩))) (h4 : A.tmps[4]? = some (.pointer (some ⟨qb, 0, none⟩))) (h5 : A.tmps[5]? = some (.pointer (some ⟨qy, 0, none⟩))) (h6 : A.tmps[6]? = some (undef)) (h7 : A.tmps[7]? = some (undef)) (h8 : A.tmps[8]? = some (undef)) (h9 : A.tmps[9]? = some (undef)) (h10 : A.tmps[10]? = some (undef)) (h11 : A.tmps[11]? = some (.int .i64 k)) (h12 : A.tmps[12]? = some (undef)) (h14 : A.tmps[14]? = some (vo)) (h15 : A.tmps[15]? = some (.int .i64 nl)) (h16 : A.tmps[16]? = some (uv)) (h17 : A.tmps[17]? = some (.int .i64 nt)) (h18 : A.tmps[18]? = some (.bool false)) (h19 : A.tmps[19]? = some (undef)) (h20 : A.tmps[20]? = some (undef)) (h21 : A.tmps[21]? = some (undef)) (h22 : A.tmps[22]? = some (undef)) (h23 : A.tmps[23]? = some (undef)) (h24 : A.tmps[24]? = some (undef)) (h25 : A.tmps[25]? = some (undef)) (h26 : A.tmps[26]? = some (undef)) (h27 : A.tmps[27]? = some (undef)) (h28 : A.tmps[28]? = some (undef)) (h29 : A.tmps[29]? = some (undef)) (h30 : A.tmps[30]? = some (undef)) (h31 : A.tmps[31]? = some (undef)) (h32 : A.tmps[32]? = some (undef)) (h33 : A.tmps[33]? = some (undef)) (h34 : A.tmps[34]? = some (undef)) (h35 : A.tmps[35]? = some (undef)) (h36 : A.tmps[36]? = some (undef)) (h37 : A.tmps[37]? = some (undef)) (h38 : A.tmps[38]? = some (undef)) (h39 : A.tmps[39]? = some (undef)) (h40 : A.tmps[40]? = some (undef)) (h41 : A.tmps[41]? = some (undef)) (h42 : A.tmps[42]? = some (undef)) (h43 : A.tmps[43]? = some (undef)) (h44 : A.tmps[44]? = some (undef)) (h45 : A.tmps[45]? = some (undef)) (h46 : A.tmps[46]? = some (undef)) (h47 : A.tmps[47]? = some (undef)) (h48 : A.tmps[48]? = some (undef)) (h49 : A.tmps[49]? = some (uv)) (h50 : A.tmps[50]? = some (.int .i64 nt)) (h51 : A.tmps[51]? = some (.int .i64 k)) : ∃ z, A = { tmps := (frT vo uv qt qp ql qb qy nl nt k z).toArray, defers := ds } := by
  obtain ⟨z, e⟩ := frT_of vo uv qt qp ql qb qy nl nt k A.tmps.toList (by rw [Array.length_toList]; exact hL) (by rw [Array.getElem?_toList]; exact h0) (by rw [Array.getElem?_toList]; exact h1) (by rw [Array.getElem?_toList]; exact h2) (by rw [Array.getElem?_toList]; exact h3) (by rw [Array.getElem?_toList]; exact h4) (by rw [Array.getElem?_toList]; exact h5) (by rw [Array.getElem?_toList]; exact h6) (by rw [Array.getElem?_toList]; exact h7) (by rw [Array.getElem?_toList]; exact h8) (by rw [Array.getElem?_toList]; exact h9) (by rw [Array.getElem?_toList]; exact h10) (by rw [Array.getElem?_toList]; exact h11) (by rw [Array.getElem?_toList]; exact h12) (by rw [Array.getElem?_toList]; exact h14) (by rw [Array.getElem?_toList]; exact h15) (by rw [Array.getElem?_toList]; exact h16) (by rw [Array.getElem?_toList]; exact h17) (by rw [Array.getElem?_toList]; exact h18) (by rw [Array.getElem?_toList]; exact h19) (by rw [Array.getElem?_toList]; exact h20) (by rw [Array.getElem?_toList]; exact h21) (by rw [Array.getElem?_toList]; exact h22) (by rw [Array.getElem?_toList]; exact h23) (by rw [Array.getElem?_toList]; exact h24) (by rw [Array.getElem?_toList]; exact h25) (by rw [Array.getElem?_toList]; exact h26) (by rw [Array.getElem?_toList]; exact h27) (by rw [Array.getElem?_toList]; exact h28) (by rw [Array.getElem?_toList]; exact h29) (by rw [Array.getElem?_toList]; exact h30) (by rw [Array.getElem?_toList]; exact h31) (by rw [Array.getElem?_toList]; exact h32) (by rw [Array.getElem?_toList]; exact h33) (by rw [Array.getElem?_toList]; exact h34) (by rw [Array.getElem?_toList]; exact h35) (by rw [Array.getElem?_toList]; exact h36) (by rw [Array.getElem?_toList]; exact h37) (by rw [Array.getElem?_toList]; exact h38) (by rw [Array.getElem?_toList]; exact h39) (by rw [Array.getElem?_toList]; exact h40) (by rw [Array.getElem?_toList]; exact h41) (by rw [Array.getElem?_toList]; exact h42) (by rw [Array.getElem?_toList]; exact h43) (by rw [Array.getElem?_toList]; exact h44) (by rw [Array.getElem?_toList]; exact h45) (by rw [Array.getElem?_toList]; exact h46) (by rw [Array.getElem?_toList]; exact h47) (by rw [Array.getElem?_toList]; exact h48) (by rw [Array.getElem?_toList]; exact h49) (by rw [Array.getElem?_toList]; exact h50) (by rw [Array.getElem?_toList]; exact h51)
  exact ⟨z, by cases A; subst hds; dsimp only at e ⊢; rw [← e]⟩
noncomputable def r18_128 : Code := codeR (codeR (codeL (codeL (codeR (codeR (codeL (codeL (codeR (codeR (codeR (codeL (Tryz.f128.body.getD .skip))))))))))))
set_option maxRecDepth 100000 in
set_option maxHeartbeats 4000000 in
theorem r18_walk (W : World) (ao : Option Addr) (nl co : Nat) (l : List Int) (uv : Value) (qt qp ql qb qy nt k : Nat) (D : World → Prop) (hs : Sl encI 1 W W.heap.size (.slice ao nl co) l) (hnl : l.length = nl) (hn0 : ao = none → co = 0) (hn16 : nl ≤ 1000)
    (hy : Box W qy 122 [.func (.func 128) #[] #[.pointer (some ⟨qt, 0, none⟩), .pointer (some ⟨qp, 0, none⟩), .pointer (some ⟨ql, 0, none⟩), .pointer (some ⟨qb, 0, none⟩), .pointer (some ⟨qy, 0, none⟩)]])
    (hcall : ∀ w1 v, Below W.heap.size W w1 → Own encI 1 3 w1 W.heap.size v (l ++ [(k : Int)]) → Calls Tryz.prog 128 #[v, .pointer (some ⟨qt, 0, none⟩), .pointer (some ⟨qp, 0, none⟩), .pointer (some ⟨ql, 0, none⟩), .pointer (some ⟨qb, 0, none⟩), .pointer (some ⟨qy, 0, none⟩)] w1 fun e w' => e = .returned (.tuple #[]) ∧ D w')
    (z : Nat → Value) (Q : Exit → Act → World → Prop)
    (hQ : ∀ z' W', D W' → Q .normal { tmps := (frT (.slice ao nl co) uv qt qp ql qb qy nl nt k z').toArray, defers := [] } W') :
    r18_128.wp Tryz.prog Q { tmps := (frT (.slice ao nl co) uv qt qp ql qb qy nl nt k z).toArray, defers := [] } W := by
  have HQ : Hid (∀ A W', (∃ z', A = { tmps := (frT (.slice ao nl co) uv qt qp ql qb qy nl nt k z').toArray, defers := [] }) → D W' → Q .normal A W') := Lib.hid (by rintro A W' ⟨z', rfl⟩ hb; exact hQ z' W' hb)
  obtain ⟨i, hi, hz, hsz, hby⟩ := info_parts infoI
  have HI := Lib.hid (show Tryz.prog.info? 3 = some i ∧ i.zero = some (.int .i64 0) ∧ i.size = 1 ∧ i.bytes = 8 from ⟨hi, hz, hsz, hby⟩)
  obtain ⟨a', c', e, ⟨hl1, hl2⟩, hA⟩ := hs
  rw [hnl] at e hl2
  cases e
  have HAT : Hid (∀ b, ao = some b → ∀ j u, (l.flatMap encI)[j]? = some u → ∀ w1, Below W.heap.size W w1 → w1.cell? (b.add j) = some u) := Lib.hid (fun b hb j u hu w1 hw => by
    have hj : j < l.length := by
      have := (List.getElem?_eq_some_iff.1 hu).1
      rwa [flat_length encI 1 encI_len, Nat.mul_one] at this
    obtain ⟨b0, off, e, hbb, hc⟩ := hA (by omega)
    rw [hb] at e
    cases e
    have h := ((hc j hj).below hw hbb) 0 u (by
      have := flat_get encI 1 encI_len l j hj 0 (by omega)
      rw [Nat.mul_one, Nat.add_zero] at this
      rw [← this]; exact hu)
    rw [Addr.add_lit]
    simpa using h)
  have HFL := Lib.hid (show (l.flatMap encI).length = nl * 1 by rw [flat_length encI 1 encI_len, hnl])
  have HN0 := Lib.hid (show ao = none → nl = 0 ∧ nl = 0 from fun h => by have := hn0 h; omega)
  have HN1 := Lib.hid (show ao = none → nl = 0 ∧ co = 0 from fun h => by have := hn0 h; omega)
  have HOW := Lib.hid (fun (w1 w2 : World) (v : Value) (ho : w2.ownsRow w1.heap.size 3 1 v (nl + 1) (l.flatMap encI ++ [.int .i64 (k : Int)])) (hb : Below W.heap.size W w1) => show Own encI 1 3 w2 W.heap.size v (l ++ [(k : Int)]) from by
    refine Own.lower (base := w1.heap.size) ?_ hb.size
    show w2.ownsRow w1.heap.size 3 1 v (l ++ [(k : Int)]).length ((l ++ [(k : Int)]).flatMap encI)
    rw [List.length_append, hnl, List.flatMap_append]
    exact ho)
  have HC := Lib.hid hcall
  have HLC := Lib.hid hl2
  have y0 := hy.cell 0
  have yz := hy.lt
  simp only [List.getElem?_cons_zero] at y0
  have HT : Hid (Tryz.prog.underlying 26 = some (.slice 3)) := Lib.hid Tryz.underlying26
  have K130 := Lib.hid (fun w1 => clip130 w1 ao nl co HLC.out HN1.out (by omega))
  clear hQ hA hcall hn0 hnl hi hz hsz hby hl1 hl2 hy
  simp only [r18_128, Tryz.f128, Option.getD, codeL, codeR, frT]
  refine wp_region_noPanic ?_
  go_region_law (first
    | (go_simp; refine (K130.out _).mono ?_; rintro e w5 ⟨rfl, rfl⟩; dsimp only)
    | (go_simp; refine (HC.out _ _ HBW.out HO.out).mono ?_; rintro e w5 ⟨rfl, hd⟩; dsimp only)
    | (refine step_append_grows rfl (.tmp 66) (.tmp 68) 26 rfl 3 i (.int .i64 0) 1 8 HT.out HI.out.1 HI.out.2.1 HI.out.2.2.1 HI.out.2.2.2 rfl (by decide) ao nl nl (l.flatMap encI) rfl HN0.out HFL.out (fun b hb j u hu => HAT.out b hb j u hu _ (by repeat (first | exact Below.refl _ _ | refine Below.alloc ?_ (by simp) _ | refine Below.drew ?_))) ⟨W.heap.size, 0, none⟩ 1 1 [.int .i64 (k : Int)] rfl rfl (fun j u hu => by first | exact cell_one_new W _ _ j u hu | exact cell_one_new W.drew _ _ j u hu | exact cell_one_new W.drew.drew _ _ j u hu) (fun x hx => by simp at hx; subst hx; rfl) (by omega) (by unfold maxLen; omega) (by omega) ?_; intro v' w' hown hgr; have HO := Lib.hid (HOW.out _ _ _ hown (by repeat (first | exact Below.refl _ _ | refine Below.alloc ?_ (by simp) _ | refine Below.drew ?_))); have HBW := Lib.hid (Below.grown (a := W) (B := W.heap.size) (by repeat (first | exact Below.refl _ _ | refine Below.alloc ?_ (by simp) _ | refine Below.drew ?_)) hgr (by first | exact Nat.le_refl _ | (simp; done) | (simp; omega)) (by simp)); have y1 := (HBW.out.cell (p := ⟨qy, 0, none⟩) yz).trans y0; have yz1 := Nat.lt_of_lt_of_le yz HBW.out.size; clear hown hgr))
  all_goals
    refine NoPanic.normal ?_
    refine HQ.out _ _ ?_ hd
    apply frT_act <;> rfl
end Go.Proofs.YtahpdkkpnkhnhaaGreatDoor
