/- Lemmas on the way to the law PathBests (part 2): Sd Rf -/
import Derived.Test.YtahpdkkpnkhnhaaGreatDoorPathBestsP01
import Derived.Test.YtahpdkkpnkhnhaaGreatDoorLib02
set_option linter.unusedVariables false
set_option linter.unusedSimpArgs false

/- Walks: Schedule of the reference. -/
namespace Go.Proofs.YtahpdkkpnkhnhaaGreatDoor
open Go Go.Proofs Go.RowKit Go.Shelf
theorem sched_bd {p : Pl} {ts : List Tk} {outs : List Int} (hp : OkP p) (ht : ∀ t ∈ ts, OkT p t) (hl : outs.length ≤ ts.length) (h : SchedR p ts outs) : ∀ i, i < outs.length → 0 ≤ outs.getD i 0 ∧ outs.getD i 0 ≤ 10000000 * ((i : Int) + 1) := by
  intro i
  induction i using Nat.strongRecOn with
  | _ i ih =>
    intro hi
    have hL := h i hi
    refine ⟨hL.nn, ?_⟩
    by_cases h0 : outs.getD i 0 ≤ 0
    · omega
    · obtain ⟨x, hx, h1, h2⟩ := hL.low (outs.getD i 0 - 1) (by omega) (by omega)
      have := barsT_bd (outs := outs) (k := i) (n := i) hp ht (by omega) (by omega) (fun j hj => ih j hj (by omega)) x hx
      omega
theorem behL_bd {p : Pl} (hp : OkP p) {a b : Tk} (ha : OkT p a) (hb : OkT p b) {s : Int} {n : Nat} : ∀ x ∈ behL p a b s n, s - 6400000 ≤ x ∧ x ≤ s + 6500000 := by
  intro x hx
  have hla := Nat.le_trans ha.len hp.le
  have hlb := Nat.le_trans hb.len hp.le
  unfold behL at hx
  obtain ⟨i, _, hx⟩ := List.mem_flatMap.1 hx
  unfold behR at hx
  obtain ⟨k, _, hx⟩ := List.mem_flatMap.1 hx
  unfold behK at hx
  split at hx
  · rw [List.mem_singleton] at hx
    have h1 := tSum_tk hp ha.ins (i + 1) hla
    have h2 := tSum_tk hp hb.ins k hlb
    have h3 := ha.run
    omega
  · cases hx
theorem candL_len {p : Pl} (hp : OkP p) {ts : List Tk} (ht : ∀ k, k < ts.length → OkT p (ts.getD k tk0)) {outs : List Int} {n : Nat} (hn : n < ts.length) : ∀ c, c ≤ n → (candL p ts outs n c).length ≤ 4096
  | 0, _ => by simp [candL]
  | c + 1, hc => by
    unfold candL
    have h1 := Nat.le_trans (ht c (by omega)).len hp.le
    have h2 := Nat.le_trans (ht n hn).len hp.le
    exact Nat.le_trans (behL_len p _ _ _ _) (Nat.mul_le_mul h1 h2)
theorem candL_bd {p : Pl} (hp : OkP p) {ts : List Tk} (ht : ∀ k, k < ts.length → OkT p (ts.getD k tk0)) {outs : List Int} {n : Nat} (hn : n < ts.length) (ho : ∀ i, i < n → 0 ≤ outs.getD i 0 ∧ outs.getD i 0 ≤ 200000000) : ∀ c, c ≤ n → ∀ x ∈ candL p ts outs n c, -10000000 ≤ x ∧ x ≤ 1000000000
  | 0, _, x, hx => by simp [candL] at hx; omega
  | c + 1, hc, x, hx => by
    unfold candL at hx
    have := behL_bd hp (ht c (by omega)) (ht n hn) x hx
    have := ho c (by omega)
    omega
theorem candsL_succ (p : Pl) (ts : List Tk) (outs : List Int) (n m : Nat) : candsL p ts outs n (m + 1) = candsL p ts outs n m ++ candL p ts outs n m := flat_succ _ _
theorem take_at {outs : List Int} {k c : Nat} (hc : c < k) (hk : k ≤ outs.length) : (outs.take k)[c]'(by rw [List.length_take]; omega) = outs.getD c 0 := by
  rw [List.getElem_take, getD_geI (by omega)]
def allF (p : Pl) (ts : List Tk) (outs : List Int) (n : Nat) (s : Int) (k : Nat) : Bool := decide (0 ≤ s) && (List.range k).all fun k => !meetB p (ts.getD k tk0) (ts.getD n tk0) (outs.getD k 0) s
theorem allF_succ (p : Pl) (ts : List Tk) (outs : List Int) (n : Nat) (s : Int) (k : Nat) : allF p ts outs n s (k + 1) = (allF p ts outs n s k && !meetB p (ts.getD k tk0) (ts.getD n tk0) (outs.getD k 0) s) := by
  unfold allF
  rw [List.range_succ, List.all_append, Bool.and_assoc]; simp
theorem allF_all (p : Pl) (ts : List Tk) (outs : List Int) (n : Nat) (s : Int) : allF p ts outs n s n = freeB p ts outs n s := rfl
set_option maxRecDepth 100000 in
set_option maxHeartbeats 4000000 in
theorem schedule57 (w : World) (v1 v2 u : Value) (p : Pl) (ts : List Tk) (outs : List Int) (hv : PlR w w.heap.size v1 v2 p) (hu : TasksR w w.heap.size u ts) (hp : OkP p) (ht : ∀ t ∈ ts, OkT p t) (h16 : ts.length ≤ 16) (hol : outs.length = ts.length) (hsc : SchedR p ts outs) :
    Calls Tryz.prog 57 #[.agg #[v1, v2], u] w (BehPost w outs) := by
  obtain ⟨Q, hQ⟩ : ∃ Q, BehPost w outs = Q := ⟨_, rfl⟩
  rw [hQ]
  have HQ : Hid (∀ (v : Value) (w' : World), Own encI 1 3 w' w.heap.size v outs → Below w.heap.size w w' → Q (.returned v) w') := Lib.hid (fun v w' h1 h2 => by rw [← hQ]; exact ⟨v, rfl, h1, h2⟩)
  clear hQ
  have htk : ∀ k, k < ts.length → OkT p (ts.getD k tk0) := fun k hk => by rw [tkGet hk]; exact ht _ (List.getElem_mem hk)
  have hnd : ∀ k, (ts.getD k tk0).path.Nodup := fun k => by
    by_cases hk : k < ts.length
    · exact (htk k hk).nd
    · rw [List.getD_eq_getElem?_getD, List.getElem?_eq_none (by omega)]; exact List.nodup_nil
  have hob := sched_bd hp ht (by omega) hsc
  have HTK := Lib.hid htk
  have HOB := Lib.hid (fun i (hi : i < ts.length) => show 0 ≤ outs.getD i 0 ∧ outs.getD i 0 ≤ 160000000 from (by have := hob i (by omega); omega))
  have HBL := Lib.hid (fun n (hn : n < ts.length) => best_least (p := p) hnd (hsc n (by omega)))
  have HCL := Lib.hid (fun n (hn : n < ts.length) => candL_len (p := p) (outs := outs) hp htk hn)
  have HCB := Lib.hid (fun n (hn : n < ts.length) => candL_bd (p := p) (outs := outs) hp htk hn (fun i hi => by have := hob i (by omega); omega))
  have HCS := Lib.hid (candsL_succ p ts outs)
  obtain ⟨uu, cu, rfl, hlu, hU⟩ := hu
  have HBE := Lib.hid (fun (w1 : World) (hb1 : Below w.heap.size w w1) (a b : Tk) (ua ub : Option Addr) (ca cb : Nat) (s : Int) (ha : Sl encI 1 w w.heap.size (.slice ua a.path.length ca) a.path) (hb : Sl encI 1 w w.heap.size (.slice ub b.path.length cb) b.path) (hta : OkT p a) (htb : OkT p b) (hs : 0 ≤ s ∧ s ≤ 1000000000000) => behind116 w1 _ _ ua ub ca cb p a b s (hv.later hb1) (ha.later hb1) (hb.later hb1) hp hta htb hs)
  have HME := Lib.hid (fun (w1 : World) (hb1 : Below w.heap.size w w1) (a b : Tk) (ua ub : Option Addr) (ca cb : Nat) (s t : Int) (ha : Sl encI 1 w w.heap.size (.slice ua a.path.length ca) a.path) (hb : Sl encI 1 w w.heap.size (.slice ub b.path.length cb) b.path) (hta : OkT p a) (htb : OkT p b) (hs : 0 ≤ s ∧ s ≤ 1000000000000) (ht : 0 ≤ t ∧ t ≤ 1000000000000) => meet117 w1 _ _ ua ub ca cb p a b s t (hv.later hb1) (ha.later hb1) (hb.later hb1) hp hta htb hs ht)
  have HU := Lib.hid (show 0 < ts.length → ∃ b off, uu = some ⟨b, off, none⟩ ∧ b < w.heap.size ∧ ∀ i, i < ts.length → ∃ au cu, At w b (off + i * 3) [.slice au (ts.getD i tk0).path.length cu, .string (ts.getD i tk0).grain, .int .i64 (ts.getD i tk0).run] ∧ Sl encI 1 w w.heap.size (.slice au (ts.getD i tk0).path.length cu) (ts.getD i tk0).path from fun h0 => by
    obtain ⟨b, off, e, hb, hc⟩ := hU h0
    refine ⟨b, off, e, hb, fun i hi => ?_⟩
    rw [tkGet hi]; exact hc i hi)
  obtain ⟨a1, n1, a2, n2, rfl, rfl⟩ := hv.agg
  clear hU hv ht htk hnd hob hsc
  have HB := Lib.hid ((Below.refl w.heap.size w).alloc (Nat.le_refl _) (.cells #[.slice a1 p.ms.length n1, .slice a2 p.arcs.length n2] 25))
  have HX := Lib.hid (Box.new w #[.slice a1 p.ms.length n1, .slice a2 p.arcs.length n2] 25)
  obtain ⟨n, hn⟩ : ∃ n, p.ms.length = n := ⟨_, rfl⟩
  obtain ⟨m, hm⟩ : ∃ n, p.arcs.length = n := ⟨_, rfl⟩
  obtain ⟨nt, hnt⟩ : ∃ n, ts.length = n := ⟨_, rfl⟩
  rw [hn] at HB HX HBE HME ⊢
  rw [hm] at HB HX HBE HME ⊢
  rw [hnt] at HTK HOB HBL HCL HCB HU hol h16 hlu ⊢
  clear hn hm hnt
  have HOL := Lib.hid hol
  clear hol
  have HT : Hid (Tryz.prog.underlying 26 = some (.slice 3)) := Lib.hid Tryz.underlying26
  have HI := Lib.hid infoI
  go_enter Tryz.func57, Tryz.ntmps57
  go_wp2_with fail
  obtain ⟨W1, hW1⟩ : ∃ W, w.alloc (.cells #[.slice a1 n n1, .slice a2 m n2] 25) = W := ⟨_, rfl⟩
  rw [hW1] at HB HX ⊢
  clear hW1
  go_loopw [5, 6] (fun v i wr => ∃ k : Nat, k ≤ nt ∧ i = .int .i64 k ∧ Below W1.heap.size W1 wr ∧ Own encI 1 3 wr W1.heap.size v (outs.take k)) (fun _ i _ => nt - (intOf i).toNat)
  case atStart => exact ⟨0, by omega, rfl, Below.refl _ _, by rw [List.take_zero]; exact Own.nil _ _ _ _ _⟩
  case round =>
    obtain ⟨k, hk, rfl, hbe, hown⟩ := hrel
    have HB1 := Lib.hid hbe
    have HBW := Lib.hid (HB.out.trans (hbe.mono HB.out.size))
    have HX1 := Lib.hid (HX.out.later hbe)
    have HOV := Lib.hid hown
    obtain ⟨av, cv, hv1⟩ := hown.shape
    clear hbe hown
    by_cases hlt : k < nt
    rotate_left
    · obtain rfl : nt = k := by omega
      have HO2 := Lib.hid (show Own encI 1 3 wr w.heap.size _ outs from by have h := HOV.out.lower HB.out.size; rw [List.take_of_length_le (by rw [HOL.out]; exact Nat.le_refl _)] at h; exact h)
      go_wp2_with fail
      exact HQ.out _ _ HO2.out HBW.out
    have HTL := Lib.hid (show (outs.take k).length = k by rw [List.length_take, HOL.out]; omega)
    rw [HTL.out] at hv1
    subst hv1
    have HOA := Lib.hid (show 0 < k → ∃ b off, av = some ⟨b, off, none⟩ ∧ b < wr.heap.size ∧ ∀ c, c < k → wr.cell? ⟨b, off + c, none⟩ = some (.int .i64 (outs.getD c 0)) from fun h0 => by
      obtain ⟨a', c', e', _, hA⟩ := HOV.out.toSl encI_len (by rw [HTL.out]; omega)
      rw [HTL.out] at e'
      cases e'
      obtain ⟨b, off, e, hb, hc⟩ := hA (by rw [HTL.out]; exact h0)
      refine ⟨b, off, e, hb, fun c hc0 => ?_⟩
      have h1 := (hc c (by rw [HTL.out]; exact hc0)).c1
      rw [Nat.mul_one, take_at hc0 (by rw [HOL.out]; omega)] at h1
      exact h1)
    obtain ⟨bT, oT, eT, hbT, hcT⟩ := HU.out (by omega)
    subst eT
    have HLK := Lib.hid (show (outs.take k).length ≤ 1000000 by rw [HTL.out]; omega)
    have HTS := Lib.hid (show outs.take (k + 1) = outs.take k ++ [outs.getD k 0] by rw [List.take_succ_eq_append_getElem (by rw [HOL.out]; exact hlt), getD_geI (by rw [HOL.out]; exact hlt)])
    generalize outs.take k = OT at *
    generalize wr = W2 at *
    go_wp2_with fail
    go_loopw [7, 8] (fun b c wr2 => ∃ (j : Nat) (ci : Int), j ≤ k + 1 ∧ c = .int .i64 ci ∧ ci = (j : Int) - 1 ∧ b = .int .i64 ((candsL p ts outs k j).foldl (pickF (freeB p ts outs k)) (-1)) ∧ Below W2.heap.size W2 wr2) (fun _ c _ => k + 1 - ((intOf c + 1) : Int).toNat)
    case atStart => exact ⟨0, -1, by omega, rfl, by omega, rfl, Below.refl _ _⟩
    case round =>
      obtain ⟨j, ci, hj, rfl, hci, rfl, hb2⟩ := hrel
      have HB2 := Lib.hid hb2
      have HBW2 := Lib.hid (HBW.out.trans (hb2.mono HBW.out.size))
      have HX2 := Lib.hid (HX1.out.later hb2)
      clear hb2
      obtain ⟨bj, hbj⟩ : ∃ b, (candsL p ts outs k j).foldl (pickF (freeB p ts outs k)) (-1) = b := ⟨_, rfl⟩
      rw [hbj]
      have HBJ := Lib.hid hbj
      clear hbj
      by_cases hjk : j ≤ k
      rotate_left
      · obtain rfl : j = k + 1 := by omega
        obtain rfl : ci = (k : Int) := by omega
        obtain rfl : bj = outs.getD k 0 := by rw [← HBJ.out]; exact HBL.out k hlt
        have HO3 := Lib.hid (HOV.out.later HB2.out)
        have HB3 := Lib.hid (HB1.out.trans (HB2.out.mono HB1.out.size))
        have hbz3 := HB3.out.size
        clear HX2 HBJ hci
        generalize outs.getD k 0 = ok at *
        go_wp2_with (at_builtin; refine wpList_push encI 1 8 26 3 _ HT.out HI.out rfl (by decide) (by decide) encI_len encI_one _ ok W1.heap.size wr _ rfl _ HO3.out hbz3 HLK.out rfl _ _ rfl rfl rfl ?_; intro v' w' hown' hg'; obtain ⟨a', cap', rfl⟩ := hown'.shape; rw [List.length_append, List.length_singleton] at hown'; have HOW := Lib.hid hown'; have HGR := Lib.hid (grown_below HB3.out hg' hbz3 (HO3.out.lt') (Nat.le_refl _)); clear hown' hg')
        go_roundw
        case rel => exact ⟨k + 1, by omega, by go_num, HGR.out, by rw [HTS.out]; exact HOW.out⟩
        case measure => simp [intOf]; omega
      have hb3 : Below wr.heap.size wr (wr.alloc (.cells #[.int .i64 0] 3)) := (Below.refl _ _).alloc (Nat.le_refl _) _
      have HB3 := Lib.hid (HB2.out.trans (hb3.mono HB2.out.size))
      have HBW3 := Lib.hid (HBW2.out.trans (hb3.mono HBW2.out.size))
      have HX3 := Lib.hid (HX2.out.later hb3)
      have HLIT := Lib.hid (Sl.lit encI_len [(0 : Int)] wr #[.int .i64 0] 3 1 rfl rfl (by simp))
      clear hb3
      cases j with
      | zero =>
        have HCI := Lib.hid hci
        have hcw : IntKind.i64.wrap (ci + 1) = ci + 1 := IntWalk.i64_in _ (by omega)
        have d0 : decide (ci < (k : Int)) = true := decide_eq_true (by omega)
        have d1 : decide (0 ≤ ci) = false := decide_eq_false (by omega)
        clear hci
        have HSL := Lib.hid (show Sl encI 1 (wr.alloc (.cells #[.int .i64 0] 3)) (wr.alloc (.cells #[.int .i64 0] 3)).heap.size (.slice (some ⟨wr.heap.size, 0, none⟩) 1 1) (candL p ts outs k 0) from HLIT.out)
        clear HLIT
        go_wp2_with fail
        obtain ⟨W3, hW3⟩ : ∃ W, wr.alloc (.cells #[.int .i64 0] 3) = W := ⟨_, rfl⟩
        obtain ⟨g3, hg3⟩ : ∃ g, wr.heap.size = g := ⟨_, rfl⟩
        rw [hW3] at HB3 HBW3 HX3 HSL ⊢
        rw [hg3] at HSL ⊢
        obtain ⟨v9, hv9⟩ : ∃ v, Value.slice (some ⟨g3, 0, none⟩) 1 1 = v := ⟨_, rfl⟩
        rw [hv9] at HSL ⊢
        clear hW3 hg3 hv9 HB2 HBW2 HX2
        obtain ⟨CL, hCL⟩ : ∃ L, candL p ts outs k 0 = L := ⟨_, rfl⟩
        have HCLN := Lib.hid (show CL.length ≤ 4096 by rw [← hCL]; exact HCL.out k hlt 0 (by omega))
        have HCLB := Lib.hid (show ∀ x ∈ CL, -10000000 ≤ x ∧ x ≤ 1000000000 by rw [← hCL]; exact HCB.out k hlt 0 (by omega))
        have HNJ := Lib.hid (show (candsL p ts outs k (0 + 1)).foldl (pickF (freeB p ts outs k)) (-1) = CL.foldl (pickF (freeB p ts outs k)) bj by rw [HCS.out, List.foldl_append, HBJ.out, hCL])
        rw [hCL] at HSL
        clear hCL
        obtain ⟨a9, c9, e9, ⟨hc91, hc92⟩, hA9⟩ := id HSL.out
        subst e9
        have HA9 := Lib.hid hA9
        clear hA9
        obtain ⟨n9, hn9⟩ : ∃ n, CL.length = n := ⟨_, rfl⟩
        have HN9 := Lib.hid hn9
        rw [hn9] at HCLN hc91 hc92 ⊢
        clear hn9
        have hcln := HCLN.out
        go_wp2_with fail
        go_loopw [7, 10] (fun b i wr3 => ∃ q : Nat, q ≤ n9 ∧ i = .int .i64 q ∧ b = .int .i64 ((CL.take q).foldl (pickF (freeB p ts outs k)) bj) ∧ Below W3.heap.size W3 wr3) (fun _ i _ => n9 - (intOf i).toNat)
        case atStart => exact ⟨0, by omega, rfl, rfl, Below.refl _ _⟩
        case round =>
          obtain ⟨q, hq, rfl, rfl, hb4⟩ := hrel
          have HB4 := Lib.hid hb4
          have HBW4 := Lib.hid (HBW3.out.trans (hb4.mono HBW3.out.size))
          have HB24 := Lib.hid (HB3.out.trans (hb4.mono HB3.out.size))
          clear hb4
          obtain ⟨bq, hbq⟩ : ∃ b, (CL.take q).foldl (pickF (freeB p ts outs k)) bj = b := ⟨_, rfl⟩
          rw [hbq]
          have HBQ := Lib.hid hbq
          clear hbq
          by_cases hqn : q < n9
          rotate_left
          · obtain rfl : n9 = q := by omega
            have HEN := Lib.hid (show CL.foldl (pickF (freeB p ts outs k)) bj = bq by rw [← HBQ.out, List.take_of_length_le (by rw [HN9.out]; exact Nat.le_refl _)])
            go_wp2_with fail
            go_roundw
            case rel => exact ⟨0 + 1, _, by omega, by first | rfl | go_num, by have := HCI.out; omega, by rw [HNJ.out, HEN.out], HB24.out⟩
            case measure => have := HCI.out; simp [intOf]; omega
          have hql : q < CL.length := by rw [HN9.out]; exact hqn
          obtain ⟨b9, o9, e9, hbb9, hc9⟩ := HA9.out (by omega)
          subst e9
          have l0 := ((hc9 q hql).below HB4.out hbb9).c1
          rw [Nat.mul_one] at l0
          have hb9z : b9 < wr.heap.size := Nat.lt_of_lt_of_le hbb9 HB4.out.size
          have HSB := Lib.hid (HCLB.out _ (List.getElem_mem hql))
          have HFS := Lib.hid (foldl_snoc (pickF (freeB p ts outs k)) bj CL q hql)
          rw [HBQ.out] at HFS
          clear hc9
          have HC9 := Lib.hid (fun (w1 : World) (hb1 : Below wr.heap.size wr w1) => show w1.cell? ⟨b9, o9 + q, none⟩ = some (.int .i64 CL[q]) from (hb1.cell (p := ⟨b9, o9 + q, none⟩) hb9z).trans l0)
          generalize CL[q] = sq at *
          have HAF := Lib.hid (allF_succ p ts outs k sq)
          have HA0 := Lib.hid (show allF p ts outs k sq 0 = decide (0 ≤ sq) by unfold allF; simp)
          have HAK := Lib.hid (allF_all p ts outs k sq)
          generalize wr = W4 at *
          go_wp2_with fail
          clear l0 hb9z
          go_loopw [11, 12] (fun f i wr4 => ∃ r : Nat, r ≤ k ∧ i = .int .i64 r ∧ f = .bool (allF p ts outs k sq r) ∧ Below W4.heap.size W4 wr4) (fun _ i _ => k - (intOf i).toNat)
          case atStart => exact ⟨0, by omega, rfl, by rw [HA0.out], Below.refl _ _⟩
          case round =>
            obtain ⟨r, hr, rfl, rfl, hb5⟩ := hrel
            have HB5 := Lib.hid hb5
            have HBW5 := Lib.hid (HBW4.out.trans (hb5.mono HBW4.out.size))
            have HB25 := Lib.hid (HB24.out.trans (hb5.mono HB24.out.size))
            have HB35 := Lib.hid (HB4.out.trans (hb5.mono HB4.out.size))
            have HX5 := Lib.hid (HX1.out.later HB25.out)
            have l0 := HC9.out _ hb5
            have hb9z : b9 < wr.heap.size := Nat.lt_of_lt_of_le hbb9 HB35.out.size
            clear hb5
            obtain ⟨FR, hFR⟩ : ∃ f, allF p ts outs k sq r = f := ⟨_, rfl⟩
            have HFR := Lib.hid hFR
            rw [hFR]
            clear hFR
            by_cases hrk : r < k
            rotate_left
            · obtain rfl : k = r := by omega
              have HPK := Lib.hid (show (CL.take (q + 1)).foldl (pickF (freeB p ts outs k)) bj = (if (FR && (decide (bq < 0) || decide (sq < bq))) = true then sq else bq) by rw [HFS.out, ← HFR.out]; rfl)
              cases FR with
              | false =>
                go_wp2_with fail
                go_roundw
                case rel => exact ⟨q + 1, by omega, by go_num, by rw [HPK.out]; rfl, HB35.out⟩
                case measure => simp [intOf]; omega
              | true =>
                cases hd1 : decide (bq < 0) with
                | true =>
                  rw [hd1] at HPK
                  go_wp2_with fail
                  go_roundw
                  case rel => exact ⟨q + 1, by omega, by go_num, by rw [HPK.out]; rfl, HB35.out⟩
                  case measure => simp [intOf]; omega
                | false =>
                  cases hd2 : decide (sq < bq) with
                  | true =>
                    rw [hd1, hd2] at HPK
                    go_wp2_with fail
                    go_roundw
                    case rel => exact ⟨q + 1, by omega, by go_num, by rw [HPK.out]; rfl, HB35.out⟩
                    case measure => simp [intOf]; omega
                  | false =>
                    rw [hd1, hd2] at HPK
                    go_wp2_with fail
                    go_roundw
                    case rel => exact ⟨q + 1, by omega, by go_num, by rw [HPK.out]; rfl, HB35.out⟩
                    case measure => simp [intOf]; omega
            have HAS := Lib.hid (HAF.out r)
            rw [HFR.out] at HAS
            cases FR with
            | false =>
              rw [Bool.false_and] at HAS
              go_wp2_with fail
              refine wp_region_later (by kernel_rfl) (by kernel_rfl) ?_
              repeat go_big_quiet_step (fail)
              refine wpQuiet_nil ?_
              rintro w6 ⟨⟨_, hb6⟩, rfl⟩
              have HB6 := Lib.hid (HB5.out.trans (hb6.mono HB5.out.size))
              clear hb6
              go_wp2_with fail
              go_roundw
              case rel => exact ⟨r + 1, by omega, by go_num, by rw [HAS.out], HB6.out⟩
              case measure => simp [intOf]; omega
            | true =>
              rw [Bool.true_and] at HAS
              have hs0 : 0 ≤ sq := by have := HFR.out; unfold allF at this; simp only [Bool.and_eq_true, decide_eq_true_eq] at this; exact this.1
              obtain ⟨hs1, hs2⟩ := HSB.out
              obtain ⟨ho1, ho2⟩ := HOB.out r (by omega)
              obtain ⟨au, cu1, HTr, HSr⟩ := hcT r (by omega)
              obtain ⟨ak, cu2, HTk, HSk⟩ := hcT k hlt
              have HK := Lib.hid (fun (X : Later wr) => HME.out X.w (HBW5.out.trans (X.h.mono HBW5.out.size)) (ts.getD r tk0) (ts.getD k tk0) au ak cu1 cu2 (outs.getD r 0) sq HSr HSk (HTK.out r (by omega)) (HTK.out k hlt) ⟨by omega, by omega⟩ ⟨hs0, by omega⟩)
              obtain ⟨t0, t1, t2⟩ := (HTr.below HBW5.out hbT).c3
              obtain ⟨s0, s1, s2⟩ := (HTk.below HBW5.out hbT).c3
              obtain ⟨bO, oO, eO, hbO, hcO⟩ := HOA.out (by omega)
              cases eO
              have o0 := (HB25.out.cell (p := ⟨bO, oO + r, none⟩) hbO).trans (hcO r hrk)
              have hbOz : bO < wr.heap.size := Nat.lt_of_lt_of_le hbO HB25.out.size
              have hbTz : bT < wr.heap.size := Nat.lt_of_lt_of_le hbT HBW5.out.size
              have hrn : (r : Int) < (nt : Int) := by omega
              have hkn : (k : Int) < (nt : Int) := by omega
              have hrk' : (r : Int) < (k : Int) := by omega
              have hqn' : (q : Int) < (n9 : Int) := by omega
              obtain ⟨MT, hMT⟩ : ∃ b, meetB p (ts.getD r tk0) (ts.getD k tk0) (outs.getD r 0) sq = b := ⟨_, rfl⟩
              rw [hMT] at HK HAS
              clear hMT
              generalize ts.getD r tk0 = tr at *
              generalize ts.getD k tk0 = tk at *
              generalize outs.getD r 0 = orr at *
              obtain ⟨x0, x1, xf, xz⟩ := HX5.out.v2
              obtain ⟨lr, hlr⟩ : ∃ n, tr.path.length = n := ⟨_, rfl⟩
              obtain ⟨lk, hlk⟩ : ∃ n, tk.path.length = n := ⟨_, rfl⟩
              rw [hlr] at t0 HK
              rw [hlk] at s0 HK
              go_wp2_with fail
              refine wp_region_later (by kernel_rfl) (by kernel_rfl) ?_
              repeat go_big_quiet_step ((go_at_call 117; exact Calls.later (HK.out _)))
              refine wpQuiet_nil ?_
              rintro w6 ⟨⟨_, hb6⟩, rfl⟩
              have HB6 := Lib.hid (HB5.out.trans (hb6.mono HB5.out.size))
              clear hb6
              go_wp2_with fail
              go_roundw
              case rel => exact ⟨r + 1, by omega, by go_num, by rw [HAS.out], HB6.out⟩
              case measure => simp [intOf]; omega
      | succ c =>
        obtain rfl : ci = (c : Int) := by omega
        have HCI := Lib.hid hci
        clear hci
        have hck : c < k := by omega
        have d0 : decide ((c : Int) < (k : Int)) = true := decide_eq_true (by omega)
        have d1 : decide (0 ≤ (c : Int)) = true := decide_eq_true (by omega)
        have hcn : (c : Int) < (nt : Int) := by omega
        have hkn : (k : Int) < (nt : Int) := by omega
        obtain ⟨ho1, ho2⟩ := HOB.out c (by omega)
        obtain ⟨au, cu1, HTr, HSr⟩ := hcT c (by omega)
        obtain ⟨ak, cu2, HTk, HSk⟩ := hcT k hlt
        have HK := Lib.hid (fun (W : World) (hW : Below w.heap.size w W) => HBE.out W hW (ts.getD c tk0) (ts.getD k tk0) au ak cu1 cu2 (outs.getD c 0) HSr HSk (HTK.out c (by omega)) (HTK.out k hlt) ⟨by omega, by omega⟩)
        obtain ⟨t0, t1, t2⟩ := (HTr.below HBW3.out hbT).c3
        obtain ⟨s0, s1, s2⟩ := (HTk.below HBW3.out hbT).c3
        obtain ⟨bO, oO, eO, hbO, hcO⟩ := HOA.out (by omega)
        subst eO
        have o0 := (HB3.out.cell (p := ⟨bO, oO + c, none⟩) hbO).trans (hcO c hck)
        have hbOz : bO < (wr.alloc (.cells #[.int .i64 0] 3)).heap.size := Nat.lt_of_lt_of_le hbO HB3.out.size
        have hbTz : bT < (wr.alloc (.cells #[.int .i64 0] 3)).heap.size := Nat.lt_of_lt_of_le hbT HBW3.out.size
        have HCA := Lib.hid (show candL p ts outs k (c + 1) = behL p (ts.getD c tk0) (ts.getD k tk0) (outs.getD c 0) (ts.getD c tk0).path.length from rfl)
        have HCLE := Lib.hid (show (behL p (ts.getD c tk0) (ts.getD k tk0) (outs.getD c 0) (ts.getD c tk0).path.length).length ≤ 1000000000 from Nat.le_trans (HCL.out k hlt (c + 1) (by omega)) (by omega))
        generalize ts.getD c tk0 = tc at *
        generalize ts.getD k tk0 = tk at *
        generalize outs.getD c 0 = oc at *
        obtain ⟨lc, hlc⟩ : ∃ n, tc.path.length = n := ⟨_, rfl⟩
        obtain ⟨lk, hlk⟩ : ∃ n, tk.path.length = n := ⟨_, rfl⟩
        rw [hlc] at t0 HK HCA HCLE
        rw [hlk] at s0 HK
        obtain ⟨x0, x1, xf, xz⟩ := HX3.out.v2
        obtain ⟨W5, hW5⟩ : ∃ W, wr.alloc (.cells #[.int .i64 0] 3) = W := ⟨_, rfl⟩
        rw [hW5] at t0 t1 t2 s0 s1 s2 o0 hbOz hbTz x0 x1 xf xz HB3 HBW3 HX3
        clear HLIT HB2 HBW2 HX2
        go_wp2_with fail
        try rw [hW5]
        clear hW5
        refine wp_region_head_drew 13 (by kernel_rfl) (by kernel_rfl) ?_
        simp only [List.take_succ_cons, List.take_zero, List.drop_succ_cons, List.drop_zero]
        repeat go_big_quiet_step (fail)
        refine wpQuiet_nil ?_
        rintro _ ⟨nq, rfl⟩
        go_wp2_with fail
        refine (HK.out _ (below_drewN HBW3.out nq)).mono ?_
        rintro e W3 ⟨v9, rfl, ho9, hb9⟩
        have hb10 := (below_drewN (Below.refl _ _) nq).trans hb9
        have HSL := Lib.hid (show Sl encI 1 W3 W3.heap.size v9 (candL p ts outs k (c + 1)) by rw [HCA.out]; exact ho9.toSl encI_len HCLE.out)
        have HB5 := Lib.hid (HB3.out.trans (hb10.mono HB3.out.size))
        have HBW5 := Lib.hid (HBW3.out.trans (hb10.mono HBW3.out.size))
        have HX5 := Lib.hid (HX3.out.later hb10)
        clear hb9 hb10 ho9 HB3 HBW3 HX3 t0 t1 t2 s0 s1 s2 o0 hbOz hbTz x0 x1 xf xz HK
        have HB3 := HB5
        have HBW3 := HBW5
        have HX3 := HX5
        clear HB5 HBW5 HX5 HTr HTk HSr HSk
        obtain ⟨CL, hCL⟩ : ∃ L, candL p ts outs k (c + 1) = L := ⟨_, rfl⟩
        have HCLN := Lib.hid (show CL.length ≤ 4096 by rw [← hCL]; exact HCL.out k hlt (c + 1) (by omega))
        have HCLB := Lib.hid (show ∀ x ∈ CL, -10000000 ≤ x ∧ x ≤ 1000000000 by rw [← hCL]; exact HCB.out k hlt (c + 1) (by omega))
        have HNJ := Lib.hid (show (candsL p ts outs k ((c + 1) + 1)).foldl (pickF (freeB p ts outs k)) (-1) = CL.foldl (pickF (freeB p ts outs k)) bj by rw [HCS.out, List.foldl_append, HBJ.out, hCL])
        rw [hCL] at HSL
        clear hCL
        obtain ⟨a9, c9, e9, ⟨hc91, hc92⟩, hA9⟩ := id HSL.out
        subst e9
        have HA9 := Lib.hid hA9
        clear hA9
        obtain ⟨n9, hn9⟩ : ∃ n, CL.length = n := ⟨_, rfl⟩
        have HN9 := Lib.hid hn9
        rw [hn9] at HCLN hc91 hc92 ⊢
        clear hn9
        have hcln := HCLN.out
        go_wp2_with fail
        go_loopw [7, 10] (fun b i wr3 => ∃ q : Nat, q ≤ n9 ∧ i = .int .i64 q ∧ b = .int .i64 ((CL.take q).foldl (pickF (freeB p ts outs k)) bj) ∧ Below W3.heap.size W3 wr3) (fun _ i _ => n9 - (intOf i).toNat)
        case atStart => exact ⟨0, by omega, rfl, rfl, Below.refl _ _⟩
        case round =>
          obtain ⟨q, hq, rfl, rfl, hb4⟩ := hrel
          have HB4 := Lib.hid hb4
          have HBW4 := Lib.hid (HBW3.out.trans (hb4.mono HBW3.out.size))
          have HB24 := Lib.hid (HB3.out.trans (hb4.mono HB3.out.size))
          clear hb4
          obtain ⟨bq, hbq⟩ : ∃ b, (CL.take q).foldl (pickF (freeB p ts outs k)) bj = b := ⟨_, rfl⟩
          rw [hbq]
          have HBQ := Lib.hid hbq
          clear hbq
          by_cases hqn : q < n9
          rotate_left
          · obtain rfl : n9 = q := by omega
            have HEN := Lib.hid (show CL.foldl (pickF (freeB p ts outs k)) bj = bq by rw [← HBQ.out, List.take_of_length_le (by rw [HN9.out]; exact Nat.le_refl _)])
            go_wp2_with fail
            go_roundw
            case rel => exact ⟨(c + 1) + 1, _, by omega, by first | rfl | go_num, by have := HCI.out; omega, by rw [HNJ.out, HEN.out], HB24.out⟩
            case measure => have := HCI.out; simp [intOf]; omega
          have hql : q < CL.length := by rw [HN9.out]; exact hqn
          obtain ⟨b9, o9, e9, hbb9, hc9⟩ := HA9.out (by omega)
          subst e9
          have l0 := ((hc9 q hql).below HB4.out hbb9).c1
          rw [Nat.mul_one] at l0
          have hb9z : b9 < wr.heap.size := Nat.lt_of_lt_of_le hbb9 HB4.out.size
          have HSB := Lib.hid (HCLB.out _ (List.getElem_mem hql))
          have HFS := Lib.hid (foldl_snoc (pickF (freeB p ts outs k)) bj CL q hql)
          rw [HBQ.out] at HFS
          clear hc9
          have HC9 := Lib.hid (fun (w1 : World) (hb1 : Below wr.heap.size wr w1) => show w1.cell? ⟨b9, o9 + q, none⟩ = some (.int .i64 CL[q]) from (hb1.cell (p := ⟨b9, o9 + q, none⟩) hb9z).trans l0)
          generalize CL[q] = sq at *
          have HAF := Lib.hid (allF_succ p ts outs k sq)
          have HA0 := Lib.hid (show allF p ts outs k sq 0 = decide (0 ≤ sq) by unfold allF; simp)
          have HAK := Lib.hid (allF_all p ts outs k sq)
          generalize wr = W4 at *
          go_wp2_with fail
          clear l0 hb9z
          go_loopw [11, 12] (fun f i wr4 => ∃ r : Nat, r ≤ k ∧ i = .int .i64 r ∧ f = .bool (allF p ts outs k sq r) ∧ Below W4.heap.size W4 wr4) (fun _ i _ => k - (intOf i).toNat)
          case atStart => exact ⟨0, by omega, rfl, by rw [HA0.out], Below.refl _ _⟩
          case round =>
            obtain ⟨r, hr, rfl, rfl, hb5⟩ := hrel
            have HB5 := Lib.hid hb5
            have HBW5 := Lib.hid (HBW4.out.trans (hb5.mono HBW4.out.size))
            have HB25 := Lib.hid (HB24.out.trans (hb5.mono HB24.out.size))
            have HB35 := Lib.hid (HB4.out.trans (hb5.mono HB4.out.size))
            have HX5 := Lib.hid (HX1.out.later HB25.out)
            have l0 := HC9.out _ hb5
            have hb9z : b9 < wr.heap.size := Nat.lt_of_lt_of_le hbb9 HB35.out.size
            clear hb5
            obtain ⟨FR, hFR⟩ : ∃ f, allF p ts outs k sq r = f := ⟨_, rfl⟩
            have HFR := Lib.hid hFR
            rw [hFR]
            clear hFR
            by_cases hrk : r < k
            rotate_left
            · obtain rfl : k = r := by omega
              have HPK := Lib.hid (show (CL.take (q + 1)).foldl (pickF (freeB p ts outs k)) bj = (if (FR && (decide (bq < 0) || decide (sq < bq))) = true then sq else bq) by rw [HFS.out, ← HFR.out]; rfl)
              cases FR with
              | false =>
                go_wp2_with fail
                go_roundw
                case rel => exact ⟨q + 1, by omega, by go_num, by rw [HPK.out]; rfl, HB35.out⟩
                case measure => simp [intOf]; omega
              | true =>
                cases hd1 : decide (bq < 0) with
                | true =>
                  rw [hd1] at HPK
                  go_wp2_with fail
                  go_roundw
                  case rel => exact ⟨q + 1, by omega, by go_num, by rw [HPK.out]; rfl, HB35.out⟩
                  case measure => simp [intOf]; omega
                | false =>
                  cases hd2 : decide (sq < bq) with
                  | true =>
                    rw [hd1, hd2] at HPK
                    go_wp2_with fail
                    go_roundw
                    case rel => exact ⟨q + 1, by omega, by go_num, by rw [HPK.out]; rfl, HB35.out⟩
                    case measure => simp [intOf]; omega
                  | false =>
                    rw [hd1, hd2] at HPK
                    go_wp2_with fail
                    go_roundw
                    case rel => exact ⟨q + 1, by omega, by go_num, by rw [HPK.out]; rfl, HB35.out⟩
                    case measure => simp [intOf]; omega
            have HAS := Lib.hid (HAF.out r)
            rw [HFR.out] at HAS
            cases FR with
            | false =>
              rw [Bool.false_and] at HAS
              go_wp2_with fail
              refine wp_region_later (by kernel_rfl) (by kernel_rfl) ?_
              repeat go_big_quiet_step (fail)
              refine wpQuiet_nil ?_
              rintro w6 ⟨⟨_, hb6⟩, rfl⟩
              have HB6 := Lib.hid (HB5.out.trans (hb6.mono HB5.out.size))
              clear hb6
              go_wp2_with fail
              go_roundw
              case rel => exact ⟨r + 1, by omega, by go_num, by rw [HAS.out], HB6.out⟩
              case measure => simp [intOf]; omega
            | true =>
              rw [Bool.true_and] at HAS
              have hs0 : 0 ≤ sq := by have := HFR.out; unfold allF at this; simp only [Bool.and_eq_true, decide_eq_true_eq] at this; exact this.1
              obtain ⟨hs1, hs2⟩ := HSB.out
              obtain ⟨ho1, ho2⟩ := HOB.out r (by omega)
              obtain ⟨au, cu1, HTr, HSr⟩ := hcT r (by omega)
              obtain ⟨ak, cu2, HTk, HSk⟩ := hcT k hlt
              have HK := Lib.hid (fun (X : Later wr) => HME.out X.w (HBW5.out.trans (X.h.mono HBW5.out.size)) (ts.getD r tk0) (ts.getD k tk0) au ak cu1 cu2 (outs.getD r 0) sq HSr HSk (HTK.out r (by omega)) (HTK.out k hlt) ⟨by omega, by omega⟩ ⟨hs0, by omega⟩)
              obtain ⟨t0, t1, t2⟩ := (HTr.below HBW5.out hbT).c3
              obtain ⟨s0, s1, s2⟩ := (HTk.below HBW5.out hbT).c3
              obtain ⟨bO, oO, eO, hbO, hcO⟩ := HOA.out (by omega)
              cases eO
              have o0 := (HB25.out.cell (p := ⟨bO, oO + r, none⟩) hbO).trans (hcO r hrk)
              have hbOz : bO < wr.heap.size := Nat.lt_of_lt_of_le hbO HB25.out.size
              have hbTz : bT < wr.heap.size := Nat.lt_of_lt_of_le hbT HBW5.out.size
              have hrn : (r : Int) < (nt : Int) := by omega
              have hkn : (k : Int) < (nt : Int) := by omega
              have hrk' : (r : Int) < (k : Int) := by omega
              have hqn' : (q : Int) < (n9 : Int) := by omega
              obtain ⟨MT, hMT⟩ : ∃ b, meetB p (ts.getD r tk0) (ts.getD k tk0) (outs.getD r 0) sq = b := ⟨_, rfl⟩
              rw [hMT] at HK HAS
              clear hMT
              generalize ts.getD r tk0 = tr at *
              generalize ts.getD k tk0 = tk at *
              generalize outs.getD r 0 = orr at *
              obtain ⟨x0, x1, xf, xz⟩ := HX5.out.v2
              obtain ⟨lr, hlr⟩ : ∃ n, tr.path.length = n := ⟨_, rfl⟩
              obtain ⟨lk, hlk⟩ : ∃ n, tk.path.length = n := ⟨_, rfl⟩
              rw [hlr] at t0 HK
              rw [hlk] at s0 HK
              go_wp2_with fail
              refine wp_region_later (by kernel_rfl) (by kernel_rfl) ?_
              repeat go_big_quiet_step ((go_at_call 117; exact Calls.later (HK.out _)))
              refine wpQuiet_nil ?_
              rintro w6 ⟨⟨_, hb6⟩, rfl⟩
              have HB6 := Lib.hid (HB5.out.trans (hb6.mono HB5.out.size))
              clear hb6
              go_wp2_with fail
              go_roundw
              case rel => exact ⟨r + 1, by omega, by go_num, by rw [HAS.out], HB6.out⟩
              case measure => simp [intOf]; omega
end Go.Proofs.YtahpdkkpnkhnhaaGreatDoor
/- A region that draws its order: quiet operations, then a call that all others wait for or are waited for by, then quiet operations in whatever order. -/
namespace Go
open Go.RowKit
section
variable {P : Program} {ops : Array Oper} {C : World → Prop}
structure SameW (W : World) where
  w : World
  h : w = W
instance (W : World) : Nonempty (SameW W) := ⟨⟨W, rfl⟩⟩
theorem SameW.cell {W : World} (X : SameW W) (b o : Nat) : X.w.cell? ⟨b, o, none⟩ = W.cell? ⟨b, o, none⟩ := by rw [X.h]
attribute [go_sem] SameW.cell
end
end Go
