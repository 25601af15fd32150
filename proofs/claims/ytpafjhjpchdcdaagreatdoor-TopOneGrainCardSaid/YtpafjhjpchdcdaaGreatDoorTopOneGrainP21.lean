/- Lemmas on the way to the law TopOneGrain (part 21): YEk YEl YLa YLe YRf YNe PKd PLb PLc -/
import Derived.Test.YtpafjhjpchdcdaaGreatDoorTopOneGrainP20
import Derived.Laws.EntriesVeiled
import Derived.Test.YtpafjhjpchdcdaaGreatDoorTopOneGrainP01
import Derived.Sort.BigQuietIn
import Derived.BigQuiet
import Derived.StillTail
import Derived.WalkKit
import Derived.WalkSpells
import Derived.WalkLawsBesides
import Derived.Lib.Hide
import Derived.Test.YtpafjhjpchdcdaaGreatDoorProg
import Derived.Laws.OwnMore
import Derived.Laws.AppendOwnNone
import Derived.Deep.AppendSrc
import Derived.IntWalk
import Derived.RegionTactic
import Derived.BigRegion
import Derived.Shelf.Abstract
import Derived.Maps.Own
import Derived.Maps.OwnOps
import Derived.Maps.OwnSet
import Derived.Maps.Views
import Derived.Maps.RangeWalk
import Derived.Shelf.Slices.Reverse
import Derived.Ground.NamesProg
import Derived.Ground.SlsfProg
import Derived.Shelf.SlSortCmp.WholeK
import Derived.Shelf.SlSortCmp.NoneTotal
import Derived.RangeFuncNested
import Derived.RangeFuncBound
import Derived.RangeFuncCalls
import Derived.RangeFuncLeaves
import Derived.Shelf.RegionOpen
import Derived.OwnWalkIn
import Derived.TacticsInMore
import Derived.LoopNIn
import Derived.LoopIn
import Derived.LoopTactic
import Derived.Deep.RegionHeld3
import Derived.ArgAppend
import Derived.Laws.Tables
import Derived.RangeFuncBox
import Derived.RangeFuncFrom
import Derived.Shelf.Sort.Plain
import Derived.Ground.Names2Prog
import Derived.Shelf.Slices.CompactI
import Derived.Shelf.Slices.In.SortNone
import Derived.Deep.RegionWith
set_option linter.unusedVariables false
set_option linter.unusedSimpArgs false

/- Walks: most: the greatest flow. -/
namespace Go.Proofs.YtpafjhjpchdcdaaGreatDoor
open Go Go.Proofs Go.RowKit Go.Shelf
theorem BackR.congr {N : Nat} {C R0 R R' : Nat → Nat → Int} {ord : List Nat} {src snk : Nat} {n : Int} {v : Nat} (h : BackR N C R0 R ord src snk n v) (hlt : ∀ x ∈ ord, x < N) (hR : ∀ i j, i < N → j < N → R' i j = R i j) : BackR N C R0 R' ord src snk n v :=
  ⟨h.mv, h.fl.congr hR fun _ _ => rfl, fun u x hu hx a b => by rw [hR u x (hlt u hu) (hlt x hx)]; exact h.sm u x hu hx a b⟩
theorem getD_m1 (l : List Int) (i : Nat) (h : i < l.length) : l[i] = l.getD i (-1) := by rw [List.getD_eq_getElem?_getD, List.getElem?_eq_getElem h, Option.getD_some]
theorem RFlow.bd {N : Nat} {C R : Nat → Nat → Int} {x : Nat → Int} (h : RFlow N C R x) (hC : ∀ i j, 0 ≤ C i j ∧ C i j ≤ 2) {i j : Nat} (hi : i < N) (hj : j < N) : 0 ≤ R i j ∧ R i j ≤ 4 := by
  have h1 := h.nn i j hi hj
  have h2 := h.nn j i hj hi
  have h3 := h.sm i j hi hj
  have h4 := hC i j
  have h5 := hC j i
  omega
theorem sumF_bd {n : Nat} {f : Nat → Int} {c : Int} (h : ∀ v, v < n → f v ≤ c) : sumF n f ≤ n * c := by
  induction n with
  | zero => simp [sumF]
  | succ n ih =>
    have h1 := h n (by omega)
    have h2 := ih fun v hv => h v (by omega)
    simp only [sumF]
    have : ((n + 1 : Nat) : Int) * c = n * c + c := by push_cast; rw [Int.add_mul, Int.one_mul]
    omega
theorem RFlow.val_le {N : Nat} {C R : Nat → Nat → Int} {n : Int} (hN2 : 2 ≤ N) (hN : N ≤ 130) (hC : ∀ i j, 0 ≤ C i j ∧ C i j ≤ 2) (h : RFlow N C R (valX (N - 2) (N - 1) n)) : n ≤ 33800 := by
  have h1 := h.le_cap (by omega) (fun i => decide (i = N - 2)) (by simp) (by simp; omega)
  have h2 : capS N C (fun i => decide (i = N - 2)) ≤ N * 260 := by
    unfold capS
    refine sumF_bd fun i _ => ?_
    refine Int.le_trans (sumF_bd (c := 2) fun k _ => ?_) (by omega)
    have := hC i k
    split <;> omega
  omega
structure MostR (p : Pl) (src snk : List Int) (rm : List Int) (n : Int) : Prop where
  fl : RFlow (2 * p.ms.length + 2) (capC p src snk) (matR rm) (valX (2 * p.ms.length) (2 * p.ms.length + 1) n)
  cl : ∃ bf ord, SpR (2 * p.ms.length + 2) (matR rm) (2 * p.ms.length) bf ord ∧ SpDone (2 * p.ms.length + 2) (matR rm) ord ord.length ∧ (2 * p.ms.length + 1) ∉ ord
def MostPost (w : World) (p : Pl) (src snk : List Int) (e : Ending) (w' : World) : Prop :=
  ∃ fb rm n, e = .returned (.tuple #[.pointer (some ⟨fb, 0, none⟩), .int .i64 n]) ∧ Box w' fb 113 (roomV rm (2 * p.ms.length + 2)) ∧ rm.length = 16900 ∧ MostR p src snk rm n ∧ w.heap.size ≤ fb ∧ Below w.heap.size w w'
theorem MostR.start (p : Pl) (src snk : List Int) (hp : p.ms.length ≤ 64) : RFlow (2 * p.ms.length + 2) (capC p src snk) (matR (roomL p src snk)) (valX (2 * p.ms.length) (2 * p.ms.length + 1) 0) :=
  (RFlow.start fun i j _ _ => (capC_bd p src snk i j).1).congr (fun i j hi hj => roomL_get p src snk (by omega) (by omega)) fun i _ => by unfold valX; simp
structure SpG (w w' : World) (N : Nat) (rm : List Int) (src : Nat) (g cb : Nat) (bf : List Int) (ord : List Nat) : Prop where
  o : Own encI 1 3 w' w.heap.size (.slice (some ⟨g, 0, none⟩) N cb) bf
  sp : SpR N (matR rm) src bf ord
  dn : SpDone N (matR rm) ord ord.length
  bw : Below w.heap.size w w'
theorem SpG.cell {w w' : World} {N : Nat} {rm : List Int} {src g cb : Nat} {bf : List Int} {ord : List Nat} (h : SpG w w' N rm src g cb bf ord) {i : Nat} (hi : i < N) : w'.cell? ⟨g, i, none⟩ = some (.int .i64 (bf.getD i (-1))) := by
  have hbl := h.sp.len
  have o0 := (h.o.atN hbl encI_len i (by omega)).c1
  rwa [Nat.mul_one, getD_m1] at o0
theorem own_cell {W : World} {base g N cb : Nat} {bf : List Int} (h : Own encI 1 3 W base (.slice (some ⟨g, 0, none⟩) N cb) bf) (hl : bf.length = N) {i : Nat} (hi : i < N) : W.cell? ⟨g, i, none⟩ = some (.int .i64 (bf.getD i (-1))) := by
  have o0 := (h.atN hl encI_len i (by omega)).c1
  rwa [Nat.mul_one, getD_m1] at o0
theorem own_set {W : World} {base g N cb fb o : Nat} {bf : List Int} (h : Own encI 1 3 W base (.slice (some ⟨g, 0, none⟩) N cb) bf) (hne : fb ≠ g) (u : Value) : Own encI 1 3 (W.setCell ⟨fb, o, none⟩ u) base (.slice (some ⟨g, 0, none⟩) N cb) bf :=
  h.kept (grownBy_set W ⟨fb, o, none⟩ u) (.inr (by simp [Value.ownBlock]; omega))
theorem own_drew {W : World} {base g N cb : Nat} {bf : List Int} (h : Own encI 1 3 W base (.slice (some ⟨g, 0, none⟩) N cb) bf) (q : Nat) : Own encI 1 3 (W.drewN q) base (.slice (some ⟨g, 0, none⟩) N cb) bf := h.drewN q
theorem spread_g {w : World} {fb N : Nat} {rm : List Int} (hl : rm.length = 16900) (hN2 : 2 ≤ N) (hN130 : N ≤ 130) (hf : Box w fb 113 (roomV rm N)) {src snk : Nat} (h1 : src + 2 = N) (h2 : snk + 1 = N) :
    Calls Tryz.prog 70 #[.pointer (some ⟨fb, 0, none⟩)] w fun e w' => ∃ g cb bf ord bs, e = .returned (.slice (some ⟨g, 0, none⟩) N cb) ∧ w'.cell? ⟨g, snk, none⟩ = some (.int .i64 bs) ∧ bf.getD snk (-1) = bs ∧ g < w'.heap.size ∧ SpG w w' N rm src g cb bf ord := by
  refine (spread122 w fb N rm hl hN2 hN130 hf).mono ?_
  rintro e w' ⟨g, cb, bf, ord, rfl, ho, hsp, hdn, hb⟩
  obtain rfl : src = N - 2 := by omega
  have hG : SpG w w' N rm (N - 2) g cb bf ord := ⟨ho, hsp, hdn, hb⟩
  exact ⟨g, cb, bf, ord, _, rfl, hG.cell (by omega), rfl, ho.ltN.2, hG⟩
noncomputable def m5_119 : Code := codeR (codeR (codeR (codeR (codeR (codeR (codeR c119))))))
set_option maxRecDepth 100000 in
set_option maxHeartbeats 1000000 in
theorem m5_walk (w W : World) (fb : Nat) (s t v1 v2 : Value) (p : Pl) (ls lt : List Int) (z : Nat → Value) (hp : p.ms.length ≤ 64)
    (hm : MoM w W fb (2 * p.ms.length + 2) v1 v2 (roomL p ls lt)) (Q : Exit → Act → World → Prop)
    (hQ : ∀ A W' rm n, A.tmps[6]? = some (.pointer (some ⟨fb, 0, none⟩)) → A.tmps[7]? = some (.int .i64 n) → A.defers = [] → MoM w W' fb (2 * p.ms.length + 2) v1 v2 rm → MostR p ls lt rm n → Q .ret A W') :
    m5_119.wp Tryz.prog Q { tmps := (fr119 w.heap.size s t fb (2 * p.ms.length) (2 * p.ms.length + 1) z).toArray, defers := [] } W := by
  have HQ := Lib.hid hQ
  have HM := Lib.hid hm
  have HF0 := Lib.hid (MostR.start p ls lt hp)
  have HMR := Lib.hid (fun rm n h1 h2 => (⟨h1, h2⟩ : MostR p ls lt rm n))
  clear hQ hm
  obtain ⟨N, hN⟩ : ∃ N, 2 * p.ms.length + 2 = N := ⟨_, rfl⟩
  obtain ⟨src, hsrc⟩ : ∃ N, 2 * p.ms.length = N := ⟨_, rfl⟩
  obtain ⟨snk, hsnk⟩ : ∃ N, 2 * p.ms.length + 1 = N := ⟨_, rfl⟩
  have hC := capC_bd p ls lt
  generalize capC p ls lt = C at *
  rw [hN, hsnk, hsrc] at HF0 HMR
  rw [hN] at HM HQ
  rw [hsnk, hsrc]
  have hN2 : 2 ≤ N := by omega
  have hN130 : N ≤ 130 := by omega
  have HC := Lib.hid hC
  have hs1 : src + 2 = N := by omega
  have hs2 : snk + 1 = N := by omega
  clear hN hsrc hsnk hC hp
  simp only [m5_119, c119, Tryz.f46, Option.getD, codeL, codeR, fr119]
  go_wp2_with fail
  go_loopw [20] (fun i wr => ∃ n : Int, 0 ≤ n ∧ i = .int .i64 n ∧ ∃ rm, MoM w wr fb N v1 v2 rm ∧ RFlow N C (matR rm) (valX src snk n)) (fun i _ => 40000 - (intOf i).toNat)
  case atStart => exact ⟨0, by omega, rfl, _, HM.out, HF0.out⟩
  case round =>
    clear HM HF0
    obtain ⟨n, hn0, rfl, rm, hm, hfl⟩ := hrel
    have hn1 : n ≤ 33800 := by
      have h := hfl
      rw [show src = N - 2 by omega, show snk = N - 1 by omega] at h
      exact h.val_le hN2 hN130 HC.out
    have HM := Lib.hid hm
    have HFL := Lib.hid hfl
    have HSP := Lib.hid (spread_g hm.len hN2 hN130 hm.fl hs1 hs2)
    have hsk : (snk : Int) < N := by omega
    have hsk0 : snk < N := by omega
    clear hm hfl
    go_wp2_with (go_at_call 70; refine HSP.out.mono ?_; rintro e w2 ⟨g, cb, bf, ord, bs, rfl, o0, hbs, oz, hG⟩; have HBS := Lib.hid hbs; have HG := Lib.hid hG; clear hbs hG)
    · have hneg : bs < 0 := by assumption
      refine HQ.out _ _ rm n rfl rfl rfl (HM.out.later HG.out.bw) (HMR.out rm n HFL.out ⟨bf, ord, HG.out.sp, HG.out.dn, fun hh => ?_⟩)
      have h1 := (HG.out.sp.mem snk (by omega)).2 hh
      rw [HBS.out] at h1
      omega
    have hneg : 0 ≤ bs := by omega
    have HNG := Lib.hid hneg
    have HB0 : Hid (BackR N C (matR rm) (matR rm) ord src snk n snk) := Lib.hid (BackR.start HFL.out ((HG.out.sp.mem snk (by omega)).1 (by rw [HBS.out]; exact hneg)))
    have HM2 := Lib.hid (HM.out.later HG.out.bw)
    have HGB := Lib.hid (show wr.heap.size ≤ g from HG.out.o.ltN.1)
    have HFB := Lib.hid HM.out.fl.lt
    clear hneg o0 HM HNG HSP
    obtain ⟨U, hU⟩ : ∃ U : World, U = wr := ⟨_, rfl⟩
    subst hU
    go_loopw [22] (fun i wr => ∃ v : Nat, i = .int .i64 v ∧ ∃ rm', MoM w wr fb N v1 v2 rm' ∧ BackR N C (matR rm) (matR rm') ord src snk n v ∧ Own encI 1 3 wr U.heap.size (.slice (some ⟨g, 0, none⟩) N cb) bf) (fun i _ => ord.idxOf (intOf i).toNat)
    case atStart => exact ⟨snk, rfl, rm, HM2.out, HB0.out, HG.out.o⟩
    case round =>
      clear HM2 HB0 oz
      obtain ⟨v, rfl, rm1, hm, hbk, ho⟩ := hrel
      have HM := Lib.hid hm
      have HBK := Lib.hid hbk
      have HO := Lib.hid ho
      by_cases hvs : v = src
      · subst hvs
        have k1 : ((v : Int) != (v : Int)) = false := by simp
        clear hm hbk ho
        go_wp2_with fail
        exact ⟨⟨n + 1, by omega, rfl, rm1, HM.out, HBK.out.done⟩, by simp [intOf]; omega⟩
      have k1 : ((v : Int) != (src : Int)) = true := by rw [bne_iff_ne]; omega
      have hvN : v < N := HG.out.sp.lt v hbk.mv
      obtain ⟨kk, h1, h2, h3, h4, h5, h6⟩ := hbk.step HG.out.sp hvs
      have hbl := HG.out.sp.len
      have hv130 : (v : Int) < 130 := by omega
      have hk130 : (kk : Int) < 130 := by omega
      have HV : Hid (v < 130 ∧ kk < 130 ∧ kk ≠ v) := Lib.hid ⟨by omega, by omega, h3⟩
      have H4 := Lib.hid h4
      have H6 := Lib.hid h6
      have H1 := Lib.hid h1
      have HBL := Lib.hid hbl
      have hbd1 := hbk.fl.bd HC.out h2 hvN
      have hbd2 := hbk.fl.bd HC.out hvN h2
      have hc1 := own_cell ho hbl hvN
      rw [h1] at hc1
      have hr1 := (hm.fl.cell (kk * 130 + v)).trans (roomV_get N hm.len (by omega) (by omega))
      obtain ⟨r1, hr1e⟩ : ∃ r, matR rm1 kk v = r := ⟨_, rfl⟩
      obtain ⟨r2, hr2e⟩ : ∃ r, matR rm1 v kk = r := ⟨_, rfl⟩
      rw [hr1e] at hr1 hbd1 h5
      rw [hr2e] at hbd2
      have hw8 : IntKind.i8.wrap (r1 - 1) = r1 - 1 := IntWalk.i8_in _ (by omega)
      have hw9 : IntKind.i8.wrap (r2 + 1) = r2 + 1 := IntWalk.i8_in _ (by omega)
      have HR1 := Lib.hid hr1e
      have HR2 := Lib.hid hr2e
      have hgz := ho.ltN.2
      have hfz := hm.fl.lt
      have hff := hm.fl.frozen
      have HNE : Hid (fb ≠ g) := Lib.hid (by have := HGB.out; have := HFB.out; omega)
      clear hm hbk ho h1 h3 h4 h6 hr1e hr2e hbl h5
      go_wp2_with fail
      refine wp_region_head_drew 16 (by kernel_rfl) (by kernel_rfl) ?_
      simp only [List.take_succ_cons, List.take_zero, List.drop_succ_cons, List.drop_zero]
      repeat go_big_quiet_step (fail)
      refine wpQuiet_nil ?_
      rintro _ ⟨nq, rfl⟩
      have HM1 := Lib.hid (HM.out.later (below_drewN (Below.refl _ _) nq))
      have HO1 := Lib.hid (own_drew HO.out nq)
      have hr1' := (HM1.out.fl.cell (kk * 130 + v)).trans (roomV_get N HM1.out.len HV.out.2.1 HV.out.1)
      rw [HR1.out] at hr1'
      have hfz1 := HM1.out.fl.lt
      have hff1 := HM1.out.fl.frozen
      have HM2 := Lib.hid (HM1.out.set HV.out.2.1 HV.out.1 (r1 - 1))
      have HO2 := Lib.hid (own_set (o := kk * 130 + v) HO1.out HNE.out (.int .i8 (r1 - 1)))
      clear hr1 hfz hff hgz hc1
      have hc1 := own_cell HO1.out HBL.out hvN
      rw [H1.out] at hc1
      go_wp2_with fail
      clear hc1 hr1' hfz1 hff1
      generalize (wr.drewN nq).setCell ⟨fb, kk * 130 + v, none⟩ (.int .i8 (r1 - 1)) = W1 at *
      obtain ⟨rm2, hrm2⟩ : ∃ x, rm1.set (kk * 130 + v) (r1 - 1) = x := ⟨_, rfl⟩
      rw [hrm2] at HM2
      have HE2 : Hid (matR rm2 v kk = r2) := Lib.hid (by rw [← hrm2, matR_set HM.out.len HV.out.2.1 HV.out.1 _ HV.out.2.1, if_neg (fun h => HV.out.2.2 h.1.symm)]; exact HR2.out)
      have HRM2 := Lib.hid hrm2
      have hc2 := own_cell HO2.out HBL.out hvN
      rw [H1.out] at hc2
      have hr2 := (HM2.out.fl.cell (v * 130 + kk)).trans (roomV_get N HM2.out.len HV.out.1 HV.out.2.1)
      rw [HE2.out] at hr2
      have hgz := HO2.out.ltN.2
      have hfz := HM2.out.fl.lt
      have hff := HM2.out.fl.frozen
      clear hrm2
      refine wp_region_head_drew 16 (by kernel_rfl) (by kernel_rfl) ?_
      simp only [List.take_succ_cons, List.take_zero, List.drop_succ_cons, List.drop_zero]
      repeat go_big_quiet_step (fail)
      refine wpQuiet_nil ?_
      rintro _ ⟨nq, rfl⟩
      have HM3 := Lib.hid (HM2.out.later (below_drewN (Below.refl _ _) nq))
      have HO3 := Lib.hid (own_drew HO2.out nq)
      have hr2' := (HM3.out.fl.cell (v * 130 + kk)).trans (roomV_get N HM3.out.len HV.out.1 HV.out.2.1)
      rw [HE2.out] at hr2'
      have hfz1 := HM3.out.fl.lt
      have hff1 := HM3.out.fl.frozen
      have HM4 := Lib.hid (HM3.out.set HV.out.1 HV.out.2.1 (r2 + 1))
      have HO4 := Lib.hid (own_set (o := v * 130 + kk) HO3.out HNE.out (.int .i8 (r2 + 1)))
      have hc4 := own_cell HO4.out HBL.out hvN
      rw [H1.out] at hc4
      have hgz4 := HO4.out.ltN.2
      clear hr2 hfz hff hgz hc2
      go_wp2_with fail
      refine ⟨⟨kk, rfl, _, HM4.out, H6.out.congr (fun x hx => HG.out.sp.lt x hx) (fun i j hi hj => ?_), HO4.out⟩, by simp only [intOf, Int.toNat_natCast]; exact H4.out⟩
      have h := matR_push (rm := rm1) (u := kk) (v := v) HM.out.len HV.out.2.1 HV.out.1 HV.out.2.2 (i := i) (j := j) (by omega)
      rwa [HR1.out, HR2.out, HRM2.out] at h
end Go.Proofs.YtpafjhjpchdcdaaGreatDoor
/- Walks: most, and Most. -/
namespace Go.Proofs.YtpafjhjpchdcdaaGreatDoor
open Go Go.Proofs Go.RowKit Go.Shelf
theorem most_room (p : Pl) (src snk : List Int) : setAll 2 (snk.map fun m => (2 * m.toNat + 1) * 130 + (2 * p.ms.length + 1)) (setAll 2 (src.map fun m => (2 * p.ms.length) * 130 + 2 * m.toNat) (setAll 2 (ixA p src snk p.arcs.length) (setAll 1 (ixM p.ms.length) zeros16900))) = roomL p src snk := rfl
theorem z150 (N : Nat) : Tryz.zeroCells113.setIfInBounds 16900 (.int .i64 (N : Int)) = (roomV zeros16900 N).toArray := by
  have hl := zz_list
  generalize Tryz.zeroCells113 = Z at *
  apply Array.ext'
  rw [Array.toList_setIfInBounds, hl]
  unfold roomV zeros16900
  rw [List.set_append_right _ _ (by rw [List.length_replicate]; exact Nat.le_refl _), List.length_replicate, Nat.sub_self, List.map_replicate]
  rfl
set_option maxRecDepth 100000 in
set_option maxHeartbeats 1000000 in
theorem most119 (w : World) (v1 v2 s t : Value) (p : Pl) (ls lt : List Int) (hwd : WdR w) (hpl : PlR w w.heap.size v1 v2 p) (hs : Sl encI 1 w w.heap.size s ls) (ht : Sl encI 1 w w.heap.size t lt) (hok : OkP p)
    (hin : ∀ x ∈ ls, inN p.ms.length x = true) (hin2 : ∀ x ∈ lt, inN p.ms.length x = true) :
    Calls Tryz.prog 46 #[.agg #[v1, v2], s, t] w (MostPost w p ls lt) := by
  obtain ⟨Q, hQ⟩ : ∃ Q, MostPost w p ls lt = Q := ⟨_, rfl⟩
  rw [hQ]
  have HQ : Hid (∀ fb rm n w', Box w' fb 113 (roomV rm (2 * p.ms.length + 2)) → rm.length = 16900 → MostR p ls lt rm n → w.heap.size ≤ fb → Below w.heap.size w w' → Q (.returned (.tuple #[.pointer (some ⟨fb, 0, none⟩), .int .i64 n])) w') := Lib.hid (fun fb rm n w' h1 h2 h3 h4 h5 => by rw [← hQ]; exact ⟨fb, rm, n, rfl, h1, h2, h3, h4, h5⟩)
  clear hQ
  have HWD := Lib.hid hwd
  have HS := Lib.hid hs
  have HTT := Lib.hid ht
  have HOK := Lib.hid hok
  have HIN := Lib.hid hin
  have HIN2 := Lib.hid hin2
  have HAR := Lib.hid hpl.arcs
  obtain ⟨⟨a1, c1, rfl, ⟨hl1, _⟩, hA1⟩, ⟨a2, c2, rfl, _, _⟩⟩ := hpl
  obtain ⟨b1, off1, rfl, hbb, hat⟩ := hA1 hok.pos
  have HAT := Lib.hid hat
  have HBB := Lib.hid hbb
  have hn64 := hok.le
  obtain ⟨sa, cs, rfl, _, _⟩ := hs
  obtain ⟨ta, ct, rfl, _, _⟩ := ht
  clear hwd hok hin hin2 hat hbb hA1
  obtain ⟨n, hn⟩ : ∃ n, p.ms.length = n := ⟨_, rfl⟩
  obtain ⟨na, hna⟩ : ∃ n, p.arcs.length = n := ⟨_, rfl⟩
  obtain ⟨ns, hns⟩ : ∃ n, ls.length = n := ⟨_, rfl⟩
  obtain ⟨nt, hnt⟩ : ∃ n, lt.length = n := ⟨_, rfl⟩
  have HNN := Lib.hid hn
  rw [hna] at HAR
  rw [hns] at HS
  rw [hnt] at HTT
  rw [hn] at hn64 hl1
  rw [hn, hna, hns, hnt]
  clear hn hna hns hnt
  obtain ⟨N, hN⟩ : ∃ N, 2 * n + 2 = N := ⟨_, rfl⟩
  obtain ⟨src, hsrc⟩ : ∃ N, 2 * n = N := ⟨_, rfl⟩
  obtain ⟨snk, hsnk⟩ : ∃ N, 2 * n + 1 = N := ⟨_, rfl⟩
  have HX2 := Lib.hid (show (2 * (n : Int) + 2) = (N : Int) by omega)
  have HB0 := Lib.hid ((Below.refl w.heap.size w).alloc (Nat.le_refl _) (.cells #[.slice (some ⟨b1, off1, none⟩) n c1, .slice a2 na c2] 25))
  have HX0 := Lib.hid (Box.new w #[.slice (some ⟨b1, off1, none⟩) n c1, .slice a2 na c2] 25)
  have HEN := Lib.hid hN
  have HES := Lib.hid hsrc
  have HET := Lib.hid hsnk
  clear hN hsrc hsnk
  obtain ⟨P1, hP1⟩ : ∃ q, m1_119 = q := ⟨_, rfl⟩
  have HP1 := Lib.hid hP1
  simp only [m1_119, c119, Tryz.f46, Option.getD, codeL, codeR] at hP1
  have HL1 := Lib.hid hP1
  obtain ⟨P2, hP2⟩ : ∃ q, m2_119 = q := ⟨_, rfl⟩
  have HP2 := Lib.hid hP2
  simp only [m2_119, c119, Tryz.f46, Option.getD, codeL, codeR] at hP2
  have HL2 := Lib.hid hP2
  obtain ⟨P3, hP3⟩ : ∃ q, m3_119 = q := ⟨_, rfl⟩
  have HP3 := Lib.hid hP3
  simp only [m3_119, c119, Tryz.f46, Option.getD, codeL, codeR] at hP3
  have HL3 := Lib.hid hP3
  obtain ⟨P4, hP4⟩ : ∃ q, m4_119 = q := ⟨_, rfl⟩
  have HP4 := Lib.hid hP4
  simp only [m4_119, c119, Tryz.f46, Option.getD, codeL, codeR] at hP4
  have HL4 := Lib.hid hP4
  obtain ⟨P5, hP5⟩ : ∃ q, m5_119 = q := ⟨_, rfl⟩
  have HP5 := Lib.hid hP5
  simp only [m5_119, c119, Tryz.f46, Option.getD, codeL, codeR] at hP5
  have HL5 := Lib.hid hP5
  clear hP1 hP2 hP3 hP4 hP5
  go_enter Tryz.func46, Tryz.ntmps46
  rw [HL1.out, HL2.out, HL3.out, HL4.out, HL5.out]
  clear HL1 HL2 HL3 HL4 HL5
  go_wp2_with fail
  rw [HX2.out, z150]
  have HM0 : Hid (MoM w ((w.alloc (.cells #[.slice (some ⟨b1, off1, none⟩) n c1, .slice a2 na c2] 25)).alloc (.cells (roomV zeros16900 N).toArray 113)) (w.heap.size + 1) N (.slice (some ⟨b1, off1, none⟩) n c1) (.slice a2 na c2) zeros16900) := Lib.hid (by
    have h1 := Box.new (w.alloc (.cells #[.slice (some ⟨b1, off1, none⟩) n c1, .slice a2 na c2] 25)) (roomV zeros16900 N).toArray 113
    rw [World.size_alloc] at h1
    exact ⟨HX0.out.alloc _, h1, zeros_len, by omega, HB0.out.alloc HB0.out.size _⟩)
  have hc0 := (HM0.out.fl.cell 16900).trans (roomV_size N zeros_len)
  have hz0 := HM0.out.fl.lt
  have k1 : IntKind.i64.wrap ((N : Int) - 2) = (src : Int) := by rw [IntWalk.i64_in _ (by have := HEN.out; omega)]; have := HEN.out; have := HES.out; omega
  have k2 : IntKind.i64.wrap ((N : Int) - 1) = (snk : Int) := by rw [IntWalk.i64_in _ (by have := HEN.out; omega)]; have := HEN.out; have := HET.out; omega
  go_quiet (fail)
  have HM := Lib.hid (HM0.out.later (below_drewN (Below.refl _ _) nq))
  clear hc0 hz0 k1 k2 HM0
  go_wp2_with fail
  rw [← HP1.out]
  refine wp_of_ex (F := fun z => { tmps := (fr119 w.heap.size (.slice sa ns cs) (.slice ta nt ct) (w.heap.size + 1) src snk z).toArray, defers := [] }) (by apply fr119_act <;> rfl) fun z => ?_
  refine m1_walk w _ _ N src snk _ _ (some ⟨b1, off1, none⟩) n c1 _ zeros16900 z HM.out hn64 _ ?_
  intro z1 W1 hm1
  have HM1 := Lib.hid hm1
  clear hm1
  simp only [fr119]
  go_wp2_with fail
  rw [← HP2.out]
  refine wp_of_ex (F := fun z => { tmps := (fr119 w.heap.size (.slice sa ns cs) (.slice ta nt ct) (w.heap.size + 1) src snk z).toArray, defers := [] }) (by apply fr119_act <;> rfl) fun z => ?_
  refine m2_walk w W1 _ N src snk _ _ b1 off1 c1 _ p ls lt _ z HOK.out HWD.out HS.out HTT.out HBB.out HAT.out HAR.out (by rw [HNN.out]; exact HM1.out) _ ?_
  intro z2 W2 hm2
  rw [HNN.out] at hm2
  have HM2 := Lib.hid hm2
  clear hm2
  simp only [fr119]
  go_wp2_with fail
  rw [← HP3.out]
  refine wp_of_ex (F := fun z => { tmps := (fr119 w.heap.size (.slice sa ns cs) (.slice ta nt ct) (w.heap.size + 1) src snk z).toArray, defers := [] }) (by apply fr119_act <;> rfl) fun z => ?_
  refine m3_walk w W2 _ N src snk _ _ _ _ _ ls n z HM2.out hn64 HS.out (by have := HIN.out; rwa [HNN.out] at this) (by have := HES.out; omega) _ ?_
  intro z3 W3 hm3
  have HM3 := Lib.hid hm3
  clear hm3
  simp only [fr119]
  go_wp2_with fail
  rw [← HP4.out]
  refine wp_of_ex (F := fun z => { tmps := (fr119 w.heap.size (.slice sa ns cs) (.slice ta nt ct) (w.heap.size + 1) src snk z).toArray, defers := [] }) (by apply fr119_act <;> rfl) fun z => ?_
  refine m4_walk w W3 _ N src snk _ _ _ _ _ lt n z HM3.out hn64 HTT.out (by have := HIN2.out; rwa [HNN.out] at this) (by have := HET.out; omega) _ ?_
  intro z4 W4 hm4
  have HM4 := Lib.hid hm4
  clear hm4
  simp only [fr119]
  go_wp2_with fail
  rw [← HP5.out]
  refine wp_of_ex (F := fun z => { tmps := (fr119 w.heap.size (.slice sa ns cs) (.slice ta nt ct) (w.heap.size + 1) src snk z).toArray, defers := [] }) (by apply fr119_act <;> rfl) fun z => ?_
  have HM5 : Hid (MoM w W4 (w.heap.size + 1) (2 * p.ms.length + 2) (.slice (some ⟨b1, off1, none⟩) n c1) (.slice a2 na c2) (roomL p ls lt)) := Lib.hid (by
    have h := HM4.out
    rw [← HEN.out, ← HES.out, ← HET.out, ← HNN.out, most_room] at h
    rw [← HNN.out]
    exact h)
  have e1 : src = 2 * p.ms.length := by rw [HNN.out]; exact HES.out.symm
  have e2 : snk = 2 * p.ms.length + 1 := by rw [HNN.out]; exact HET.out.symm
  subst e1 e2
  refine m5_walk w W4 _ _ _ _ _ p ls lt z (by rw [HNN.out]; exact hn64) HM5.out _ ?_
  intro A W' rm n' h6 h7 h8 hm5 hmr
  refine bodyPost_ret (results_tmp2 rfl _ _ _) h8 ?_
  rw [Array.getD_eq_getD_getElem?, Array.getD_eq_getD_getElem?, h6, h7]
  exact HQ.out _ _ _ _ hm5.fl hm5.len hmr (by omega) hm5.bw
structure OkE (p : Pl) (src snk : List Int) : Prop where
  in1 : ∀ x ∈ src, inN p.ms.length x = true
  in2 : ∀ x ∈ snk, inN p.ms.length x = true
  k1 : ∀ x ∈ src, bgB (kdA p x) = true
  k2 : ∀ x ∈ snk, enB (kdA p x) = true
  n1 : src.Nodup
  n2 : snk.Nodup
  ne : ∀ x ∈ snk, x ∉ src
theorem endE_ok {p : Pl} {f : ByteArray → Bool} {l : List Int} (h : endE p f l = 0) : (∀ x ∈ l, inN p.ms.length x = true) ∧ (∀ x ∈ l, f (kdA p x) = true) ∧ l.Nodup := by
  unfold endE at h
  split at h
  · cases h
  · rename_i h1
    split at h
    · cases h
    · rename_i h2
      split at h
      · cases h
      · rename_i h3
        refine ⟨unk_in (by simpa using h1), fun x hx => ?_, (nodup_dup l).1 (by simpa using h3)⟩
        have := List.any_eq_false.1 (by simpa using h2 : l.any (fun x => !f (kdA p x)) = false) x hx
        simpa using this
theorem endsE_ok {p : Pl} {src snk : List Int} (h : endsE p src snk = 0) : OkE p src snk := by
  unfold endsE at h
  split at h
  · rename_i h1; exact absurd h h1
  · rename_i h1
    split at h
    · rename_i h2; exact absurd h h2
    · rename_i h2
      split at h
      · cases h
      · rename_i h3
        obtain ⟨a1, a2, a3⟩ := endE_ok (Decidable.not_not.1 h1)
        obtain ⟨b1, b2, b3⟩ := endE_ok (Decidable.not_not.1 h2)
        refine ⟨a1, b1, a2, b2, a3, b3, fun x hx hs => ?_⟩
        have := List.any_eq_false.1 (by simpa using h3 : snk.any (fun x => src.contains x) = false) x hx
        simp at this
        exact this hs
theorem bothE_ok {p : Pl} {src snk : List Int} (h : bothE p src snk = 0) : OkP p ∧ OkE p src snk := by
  unfold bothE at h
  split at h
  · rename_i h1; exact absurd h h1
  · rename_i h1; exact ⟨ckPlant_ok (Decidable.not_not.1 h1), endsE_ok h⟩
def MostE (w : World) (p : Pl) (src snk : List Int) (e : Ending) (w' : World) : Prop :=
  ∃ n, e = .returned (.tuple #[.int .i64 n, .int .i64 (bothE p src snk)]) ∧ (bothE p src snk ≠ 0 → n = 0) ∧ (bothE p src snk = 0 → ∃ rm, MostR p src snk rm n) ∧ Below w.heap.size w w'
set_option maxRecDepth 100000 in
set_option maxHeartbeats 1000000 in
theorem most60 (w : World) (v1 v2 s t : Value) (p : Pl) (src snk : List Int) (hwd : WdR w) (hv : PlR w w.heap.size v1 v2 p) (hs : Sl encI 1 w w.heap.size s src) (ht : Sl encI 1 w w.heap.size t snk) :
    Calls Tryz.prog 15 #[.agg #[v1, v2], s, t] w (MostE w p src snk) := by
  have HP := Lib.hid (fun (w1 : World) (hb : Below w.heap.size w w1) => checkBoth118 w1 _ _ s t p src snk (hwd.later hb) (hv.later hb) (hs.later hb) (ht.later hb))
  have HM := Lib.hid (fun (w1 : World) (hb : Below w.heap.size w w1) (h : bothE p src snk = 0) => most119 w1 _ _ s t p src snk (hwd.later hb) (hv.later hb) (hs.later hb) (ht.later hb) (bothE_ok h).1 (bothE_ok h).2.in1 (bothE_ok h).2.in2)
  obtain ⟨a1, n1, a2, n2, rfl, rfl⟩ := hv.agg
  obtain ⟨sa, cs, rfl, _, _⟩ := id hs
  obtain ⟨ta, ct, rfl, _, _⟩ := id ht
  clear hwd hv hs ht
  have HB := Lib.hid ((Below.refl w.heap.size w).alloc (Nat.le_refl _) (.cells #[.slice a1 p.ms.length n1, .slice a2 p.arcs.length n2] 25))
  have HX := Lib.hid (Box.new w #[.slice a1 p.ms.length n1, .slice a2 p.arcs.length n2] 25)
  obtain ⟨Q, hQ⟩ : ∃ Q, MostE w p src snk = Q := ⟨_, rfl⟩
  rw [hQ]
  unfold MostE at hQ
  unfold MostPost at HM
  obtain ⟨c, hc⟩ : ∃ c, bothE p src snk = c := ⟨_, rfl⟩
  rw [hc] at HP hQ HM
  have HQ : Hid (∀ n w', (c ≠ 0 → n = 0) → (c = 0 → ∃ rm, MostR p src snk rm n) → Below w.heap.size w w' → Q (.returned (.tuple #[.int .i64 n, .int .i64 c])) w') := Lib.hid (fun n w' h1 h2 h3 => by rw [← hQ]; exact ⟨n, rfl, h1, h2, h3⟩)
  obtain ⟨n, hn⟩ : ∃ n, p.ms.length = n := ⟨_, rfl⟩
  obtain ⟨m, hm⟩ : ∃ n, p.arcs.length = n := ⟨_, rfl⟩
  obtain ⟨ns, hns⟩ : ∃ n, src.length = n := ⟨_, rfl⟩
  obtain ⟨nt, hnt⟩ : ∃ n, snk.length = n := ⟨_, rfl⟩
  rw [hn, hm, hns, hnt] at HP
  rw [hn, hm] at HB HX
  rw [hn, hm, hns, hnt] at HM
  rw [hn, hm, hns, hnt]
  clear hn hm hns hnt hc hQ
  go_enter Tryz.func15, Tryz.ntmps15
  by_cases h0 : c = 0
  · subst h0
    have HM2 := Lib.hid (fun w1 hb => HM.out w1 hb rfl)
    clear HM
    go_wp2_with (first | (go_at_call 45; refine (HP.out _ HB.out).mono ?_; rintro e w2 ⟨rfl, hb2⟩; have HB2 := Lib.hid (HB.out.trans (hb2.mono HB.out.size)); have HX2 := Lib.hid (HX.out.later hb2); obtain ⟨x0, x1, xf, xz⟩ := HX2.out.v2; clear hb2) | (go_at_call 46; refine (HM2.out _ HB2.out).mono ?_; rintro e w3 ⟨fb, rm, nn, rfl, hf, hl, hr, hge, hb3⟩; have HR := Lib.hid hr; have HB3 := Lib.hid (HB2.out.trans (hb3.mono HB2.out.size)); clear hf hl hr hge hb3))
    exact HQ.out _ _ (fun h => absurd rfl h) (fun _ => ⟨_, HR.out⟩) HB3.out
  · have k0 : (c != 0) = true := bne_iff_ne.2 h0
    have H0 := Lib.hid h0
    clear HM h0
    go_wp2_with (go_at_call 45; refine (HP.out _ HB.out).mono ?_; rintro e w2 ⟨rfl, hb2⟩; have HB2 := Lib.hid (HB.out.trans (hb2.mono HB.out.size)); have HX2 := Lib.hid (HX.out.later hb2); obtain ⟨x0, x1, xf, xz⟩ := HX2.out.v2; clear hb2)
    exact HQ.out _ _ (fun _ => rfl) (fun h => absurd h H0.out) HB2.out
end Go.Proofs.YtpafjhjpchdcdaaGreatDoor
/- Walks: whether a path is set, and whether it runs, in the reference. -/
namespace Go.Proofs.YtpafjhjpchdcdaaGreatDoor
open Go Go.Proofs Go.RowKit Go.Shelf
def runK (p : Pl) (st : List Sx) (m : Int) : Bool := !(cvB (kdA p m) && !(st.getD m.toNat s0).runs)
def runsB (p : Pl) (st : List Sx) (l : List Int) : Bool := l.all (runK p st)
end Go.Proofs.YtpafjhjpchdcdaaGreatDoor
/- Walks: Clean. -/
namespace Go.Proofs.YtpafjhjpchdcdaaGreatDoor
open Go Go.Proofs Go.RowKit Go.Shelf
set_option maxRecDepth 100000 in
set_option maxHeartbeats 1000000 in
theorem runs112 (pb pc : Nat) (v1 v2 u : Value) (x : Int) (p : Pl) (st : List Sx) (w : World) (hw : WdR w) (hv : PlR w w.heap.size v1 v2 p) (hu : Sl Sx.enc 3 w w.heap.size u st) (hx : Box w pb 25 [v1, v2]) (hy : Box w pc 29 [u]) (hin : inN p.ms.length x = true) (hln : st.length = p.ms.length) :
    Calls Tryz.prog 40 (#[.int .i64 x] ++ #[.pointer (some ⟨pb, 0, none⟩), .pointer (some ⟨pc, 0, none⟩)]) w (Ret (.bool (!runK p st x)) w) := by
  obtain ⟨y, rfl, hyn⟩ := inN_nat hin
  obtain ⟨⟨a1, n1, rfl, hl1, hA1⟩, ⟨a2, n2, rfl, hl2, hA2⟩⟩ := hv
  obtain ⟨a3, n3, rfl, hl3, hA3⟩ := hu
  have hys : y < st.length := by omega
  obtain ⟨b1, off1, rfl, hbb1, hcells1⟩ := hA1 (by omega)
  obtain ⟨b3, off3, rfl, hbb3, hcells3⟩ := hA3 (by omega)
  obtain ⟨m0, m1⟩ := (hcells1 y hyn).c2
  have HCS := Lib.hid (hcells3 y hys)
  have HX := Lib.hid hx
  have HY := Lib.hid hy
  obtain ⟨x0, x1, xf, xz⟩ := hx.v2
  obtain ⟨y0, yf, yz⟩ := hy.v1
  obtain ⟨h11, h12⟩ := hl1
  obtain ⟨h31, h32⟩ := hl3
  have HRK := Lib.hid (show runK p st (y : Int) = !(cvB (kdA p y) && !(st.getD y s0).runs) from rfl)
  rw [stGet hys, kdA_nat hyn] at HRK
  clear hx hy hA1 hA2 hA3 hcells1 hcells3 hl2 hin
  have hyn2 : (y : Int) < p.ms.length := by omega
  rw [HRK.out]
  clear HRK
  rw [hln] at *
  generalize p.ms[y] = mx at *
  generalize st[y] = sx at *
  obtain ⟨sm, tm⟩ := mx
  obtain ⟨rn, fd, gr⟩ := sx
  dsimp only at m0 m1 ⊢
  have HK84 := Lib.hid (conveys84 sm tm w hw)
  obtain ⟨qc, hqc⟩ : ∃ q, cvB sm = q := ⟨_, rfl⟩
  rw [hqc] at HK84 ⊢
  clear hqc hw hys
  go_enter Tryz.func40, Tryz.ntmps40
  go_wp2_with fail
  refine HK84.out.mono ?_
  rintro e w2 ⟨rfl, hb2⟩
  have HB2 := Lib.hid hb2
  clear x0 x1 xf xz y0 yf yz m0 m1
  obtain ⟨y0, yf, yz⟩ := (HY.out.later hb2).v1
  obtain ⟨d0, d1, d2⟩ := (HCS.out.below hb2 hbb3).c3
  have hb3z := Nat.lt_of_lt_of_le hbb3 hb2.size
  dsimp only at d0 d1 d2
  clear hb2
  cases qc with
  | false =>
    go_wp2_with fail
    go_ret
    exact ⟨rfl, HB2.out⟩
  | true =>
    cases rn with
    | false =>
      go_wp2_with fail
      go_ret
      exact ⟨rfl, HB2.out⟩
    | true =>
      go_wp2_with fail
      go_ret
      exact ⟨rfl, HB2.out⟩
def cleanE (p : Pl) (st : List Sx) (l : List Int) : Int := if setE p st l ≠ 0 then setE p st l else if (setB st l && runsB p st l) = true then 0 else 26
set_option maxRecDepth 100000 in
set_option maxHeartbeats 1000000 in
theorem clean45 (w : World) (v1 v2 u y : Value) (p : Pl) (st : List Sx) (l : List Int) (hw : WdR w) (hv : PlR w w.heap.size v1 v2 p) (hu : Sl Sx.enc 3 w w.heap.size u st) (hs : SzR st) (hx : Sl encI 1 w w.heap.size y l) : Calls Tryz.prog 11 #[.agg #[v1, v2], u, y] w (StE w (cleanE p st l) (stopTo p l true st l.length)) := by
  have HP := Lib.hid (fun (w1 : World) (hb : Below w.heap.size w w1) => checkSet90 w1 _ _ u y p st l (hw.later hb) (hv.later hb) (hu.later hb) hs (hx.later hb))
  have HI := Lib.hid (fun (w1 : World) (hb : Below w.heap.size w w1) => isSet109 w1 u y st l (hu.later hb) (hx.later hb))
  have HT := Lib.hid (fun (w1 : World) (hb : Below w.heap.size w w1) => stopped110 w1 v1 v2 u y true p st l (hw.later hb) (hv.later hb) (hu.later hb) (hx.later hb))
  obtain ⟨a1, n1, a2, n2, rfl, rfl⟩ := hv.agg
  obtain ⟨a3, n3, e3, _, _⟩ := id hu
  obtain ⟨sn, hsn⟩ : ∃ n, st.length = n := ⟨_, rfl⟩
  rw [hsn] at e3
  subst e3
  clear hsn
  have HCF := Lib.hid (fun (w1 : World) (hb : Below w.heap.size w w1) (h1 : Box w1 w.heap.size 25 [.slice a1 p.ms.length n1, .slice a2 p.arcs.length n2]) (h2 : Box w1 (w.heap.size + 1) 29 [.slice a3 sn n3]) (hin : ∀ y ∈ l, inN p.ms.length y = true) (hln : st.length = p.ms.length) =>
    containsF111 y l 40 #[.pointer (some ⟨w.heap.size, 0, none⟩), .pointer (some ⟨w.heap.size + 1, 0, none⟩)] (fun x => !runK p st x) w1 (enters_of Tryz.func40 (by kernel_rfl) rfl) (hx.later hb) (fun w' x hb' hm =>
      runs112 w.heap.size (w.heap.size + 1) _ _ _ x p st w' (hw.later (hb.trans (hb'.mono hb.size))) (hv.later (hb.trans (hb'.mono hb.size))) (hu.later (hb.trans (hb'.mono hb.size))) (h1.later hb') (h2.later hb') (hin x hm) hln))
  have hany : l.any (fun x => !runK p st x) = !runsB p st l := by unfold runsB; rw [List.not_all_eq_any_not]
  rw [hany] at HCF
  clear hw hv hu hx hs hany
  have HB := Lib.hid ((Below.refl w.heap.size w).alloc (Nat.le_refl _) (.cells #[.slice a1 p.ms.length n1, .slice a2 p.arcs.length n2] 25))
  have HB := Lib.hid (HB.out.alloc (by simp) (.cells #[.slice a3 sn n3] 29))
  have HX := Lib.hid ((Box.new w #[.slice a1 p.ms.length n1, .slice a2 p.arcs.length n2] 25).alloc (.cells #[.slice a3 sn n3] 29))
  have HY := Lib.hid (Box.newAt (w.alloc (.cells #[.slice a1 p.ms.length n1, .slice a2 p.arcs.length n2] 25)) #[.slice a3 sn n3] 29 (by simp : _ = w.heap.size + 1))
  have HOK := Lib.hid (fun h : setE p st l = 0 => setE_ok h)
  unfold setE at HOK
  obtain ⟨E, hE⟩ : ∃ E, cleanE p st l = E := ⟨_, rfl⟩
  rw [hE]
  unfold cleanE setE at hE
  have HE := Lib.hid hE
  clear hE
  obtain ⟨cp, hcp⟩ : ∃ c, (if ckState p st ≠ 0 then ckState p st else pathE p l) = c := ⟨_, rfl⟩
  rw [hcp] at HP HE HOK
  clear hcp
  obtain ⟨NEW, hNEW⟩ : ∃ L, stopTo p l true st l.length = L := ⟨_, rfl⟩
  rw [hNEW] at HT ⊢
  clear hNEW
  obtain ⟨Q, hQ⟩ : ∃ Q, StE w E NEW = Q := ⟨_, rfl⟩
  rw [hQ]
  have HQ := Lib.hid hQ
  clear hQ
  go_enter Tryz.func11, Tryz.ntmps11
  go_wp2_with fail
  refine (HP.out _ HB.out).mono ?_
  rintro e w2 ⟨rfl, hb2⟩
  have HB2 := Lib.hid (HB.out.trans (hb2.mono HB.out.size))
  have HX2 := Lib.hid (HX.out.later hb2)
  have HY2 := Lib.hid (HY.out.later hb2)
  obtain ⟨y0, yf, yz⟩ := HY2.out.v1
  obtain ⟨x0, x1, xf, xz⟩ := HX2.out.v2
  clear hb2
  by_cases hc0 : cp = 0
  rotate_left
  · have k0 : (cp != 0) = true := by simpa using hc0
    rw [if_pos hc0] at HE
    have HC0 := Lib.hid hc0
    clear hc0
    go_wp2_with fail
    rw [← HQ.out, ← HE.out]
    exact StE.no HC0.out HB2.out
  subst hc0
  rw [if_neg (by simp)] at HE
  have HO := Lib.hid (HOK.out rfl)
  have HI2 := Lib.hid (fun (w1 : World) (hb : Below w.heap.size w w1) => HI.out w1 hb (by rw [HO.out.len]; exact HO.out.ins))
  have HT2 := Lib.hid (fun (w1 : World) (hb : Below w.heap.size w w1) => HT.out w1 hb HO.out.ins HO.out.len HO.out.ok.pos)
  clear HI HT HOK
  have HCF2 := Lib.hid (fun (w1 : World) (hb : Below w.heap.size w w1) h1 h2 => HCF.out w1 hb h1 h2 HO.out.ins HO.out.len)
  obtain ⟨q, hq⟩ : ∃ q, setB st l = q := ⟨_, rfl⟩
  obtain ⟨qr, hqr⟩ : ∃ q, runsB p st l = q := ⟨_, rfl⟩
  rw [hq] at HI2 HE
  rw [hqr] at HCF2 HE
  clear hq hqr HCF
  go_wp2_with fail
  refine (HI2.out _ HB2.out).mono ?_
  rintro e w3 ⟨rfl, hb3⟩
  have HB3 := Lib.hid (HB2.out.trans (hb3.mono HB2.out.size))
  clear x0 x1 xf xz y0 yf yz
  have HX3 := Lib.hid (HX2.out.later hb3)
  have HY3 := Lib.hid (HY2.out.later hb3)
  obtain ⟨x0, x1, xf, xz⟩ := HX3.out.v2
  obtain ⟨y0, yf, yz⟩ := HY3.out.v1
  clear hb3
  cases q with
  | false =>
    go_wp2_with fail
    rw [← HQ.out, ← HE.out]
    exact StE.no (by simp) HB3.out
  | true =>
    go_wp2_with fail
    refine (HCF2.out _ HB3.out HX3.out HY3.out).mono ?_
    rintro e w4 ⟨rfl, hb4⟩
    have HB4 := Lib.hid (HB3.out.trans (hb4.mono HB3.out.size))
    clear x0 x1 xf xz y0 yf yz
    have HX4 := Lib.hid (HX3.out.later hb4)
    have HY4 := Lib.hid (HY3.out.later hb4)
    obtain ⟨x0, x1, xf, xz⟩ := HX4.out.v2
    obtain ⟨y0, yf, yz⟩ := HY4.out.v1
    clear hb4
    cases qr with
    | false =>
      go_wp2_with fail
      rw [← HQ.out, ← HE.out]
      exact StE.no (by decide) HB4.out
    | true =>
      go_wp2_with fail
      refine (HT2.out _ HB4.out).mono ?_
      rintro e w5 ⟨v, rfl, hown, hb5⟩
      have HB5 := Lib.hid (HB4.out.trans (hb5.mono HB4.out.size))
      have HO5 := Lib.hid (hown.lower HB4.out.size)
      obtain ⟨av, cv, rfl⟩ := hown.shape
      clear hown hb5
      go_wp2_with fail
      rw [← HQ.out, ← HE.out]
      exact StE.yes HO5.out HB5.out
end Go.Proofs.YtpafjhjpchdcdaaGreatDoor
/- A region that draws its order: quiet operations, then a call that all others wait for or are waited for by, then quiet operations in whatever order. -/
namespace Go
open Go.RowKit
section
variable {P : Program} {ops : Array Oper} {C : World → Prop}
structure SameW (W : World) where
  w : World
  h : w = W
instance (W : World) : Nonempty (SameW W) := ⟨⟨W, rfl⟩⟩
theorem SameW.cell {W : World} (X : SameW W) (b o : Nat) : X.w.cell? ⟨b, o, none⟩ = W.cell? ⟨b, o, none⟩ := by rw [X.h]
attribute [go_sem] SameW.cell
end
end Go
/- Walks: Few; a command. -/
namespace Go.Proofs.YtpafjhjpchdcdaaGreatDoor
open Go Go.Proofs Go.RowKit Go.Shelf
def fewB (p : Pl) (n : Int) : Bool := decide ((p.ms.length : Int) ≤ n) && ckPlant p == 0
set_option maxRecDepth 100000 in
set_option maxHeartbeats 1000000 in
theorem few67 (w : World) (v1 v2 : Value) (p : Pl) (n : Int) (hv : PlR w w.heap.size v1 v2 p) : Calls Tryz.prog 4 #[.agg #[v1, v2], .int .i64 n] w (Ret (.bool (fewB p n)) w) := by
  have HC := Lib.hid (fun (w1 : World) (hb : Below w.heap.size w w1) => ckPlant19 w1 _ _ p (hv.later hb))
  obtain ⟨a1, n1, a2, n2, rfl, rfl⟩ := hv.agg
  clear hv
  have HB := Lib.hid ((Below.refl w.heap.size w).alloc (Nat.le_refl _) (.cells #[.slice a1 p.ms.length n1, .slice a2 p.arcs.length n2] 25))
  have HX := Lib.hid (Box.new w #[.slice a1 p.ms.length n1, .slice a2 p.arcs.length n2] 25)
  obtain ⟨R, hR⟩ : ∃ R, fewB p n = R := ⟨_, rfl⟩
  rw [hR]
  unfold fewB at hR
  have HR := Lib.hid hR
  clear hR
  obtain ⟨m, hm⟩ : ∃ n, p.ms.length = n := ⟨_, rfl⟩
  obtain ⟨k, hk⟩ : ∃ n, p.arcs.length = n := ⟨_, rfl⟩
  obtain ⟨ck, hck⟩ : ∃ n, ckPlant p = n := ⟨_, rfl⟩
  rw [hm] at HB HX HC HR ⊢
  rw [hk] at HB HX HC ⊢
  rw [hck] at HC HR
  clear hm hk hck
  cases hq : decide ((m : Int) ≤ n) with
  | false =>
    rw [hq] at HR
    go_enter Tryz.func4, Tryz.ntmps4
    go_wp2_with fail
    go_ret
    exact ⟨by rw [← HR.out]; rfl, HB.out⟩
  | true =>
    rw [hq, Bool.true_and] at HR
    go_enter Tryz.func4, Tryz.ntmps4
    go_wp2_with fail
    refine (HC.out _ HB.out).mono ?_
    rintro e w2 ⟨rfl, hb⟩
    have HB2 := Lib.hid (HB.out.trans (hb.mono HB.out.size))
    go_wp2_with fail
    go_ret
    exact ⟨by rw [← HR.out]; rfl, HB2.out⟩
end Go.Proofs.YtpafjhjpchdcdaaGreatDoor
/- Walks: whether two states are the same, in the reference. -/
namespace Go.Proofs.YtpafjhjpchdcdaaGreatDoor
open Go Go.Proofs Go.RowKit Go.Shelf
set_option maxRecDepth 100000 in
set_option maxHeartbeats 1000000 in
@[go_sem] theorem eq100 (r1 r2 : Bool) (f1 f2 : Int) (g1 g2 : ByteArray) (w : World) : (Op.equalIn 10000 58 (.agg #[.bool r1, .int .i64 f1, .string g1]) (.agg #[.bool r2, .int .i64 f2, .string g2])).run Tryz.prog w = .ok (r1 == r2 && (f1 == f2 && g1.toList == g2.toList)) w := by
  have u3 := Tryz.underlying3
  have u4 := Tryz.underlying4
  have u9 := Tryz.underlying9
  have a3 := Tryz.isAgg3
  have a4 := Tryz.isAgg4
  have a9 := Tryz.isAgg9
  have z3 := Tryz.sizeOf3
  have z4 := Tryz.sizeOf4
  have z9 := Tryz.sizeOf9
  rw [show (10000 : Nat) = 9999 + 1 from rfl, Op.equalIn]
  simp only [Sem.run_bind, run_underlying Tryz.underlying58, Result.andThen_ok]
  go_simp
  by_cases h1 : r1 = r2 <;> by_cases h2 : f1 = f2 <;> by_cases h3 : g1.toList = g2.toList <;> simp [h1, h2, h3]
end Go.Proofs.YtpafjhjpchdcdaaGreatDoor
/- Walks: Stop and Resume of the reference. -/
namespace Go.Proofs.YtpafjhjpchdcdaaGreatDoor
open Go Go.Proofs Go.RowKit Go.Shelf
theorem getD_set (L : List Sx) (i x : Nat) (v : Sx) : (L.set i v).getD x s0 = if i = x ∧ i < L.length then v else L.getD x s0 := by
  rw [List.getD_eq_getElem?_getD, List.getElem?_set, List.getD_eq_getElem?_getD]
  by_cases h : i = x
  · subst h
    by_cases h2 : i < L.length
    · simp [h2]
    · simp [h2]
  · simp [h]
end Go.Proofs.YtpafjhjpchdcdaaGreatDoor
/- Walks: Resume of the reference. -/
namespace Go.Proofs.YtpafjhjpchdcdaaGreatDoor
open Go Go.Proofs Go.RowKit Go.Shelf
def resumeV (p : Pl) (l : List Int) (k : Nat) (s : Sx) : Sx := ⟨cvB (kdA p (l.getD k 0)), s.feeds, s.grain⟩
def resumeTo (p : Pl) (l : List Int) (st : List Sx) : Nat → List Sx
  | 0 => st
  | k + 1 => (resumeTo p l st k).set (l.getD k 0).toNat (resumeV p l k ((resumeTo p l st k).getD (l.getD k 0).toNat s0))
end Go.Proofs.YtpafjhjpchdcdaaGreatDoor
