/- Lemmas on the way to the law TopOneGrain (part 16): Xj YQ YCa YCb YCk YDa YDb -/
import Derived.Test.YtpafjhjpchdcdaaGreatDoorTopOneGrainP15
import Derived.Test.YtpafjhjpchdcdaaGreatDoorTopOneGrainP14
import Derived.Test.YtpafjhjpchdcdaaGreatDoorTopOneGrainP01
import Derived.Maps.Own
import Derived.Maps.OwnOps
import Derived.Maps.OwnSet
import Derived.Maps.Views
import Derived.Test.YtpafjhjpchdcdaaGreatDoorTopOneGrainP13
import Derived.Laws.EntriesVeiled
import Derived.Maps.RangeWalk
import Derived.Shelf.Slices.Reverse
import Derived.Ground.NamesProg
import Derived.Ground.SlsfProg
import Derived.Shelf.SlSortCmp.WholeK
import Derived.Test.YtpafjhjpchdcdaaGreatDoorProg
import Derived.Shelf.SlSortCmp.NoneTotal
import Derived.RangeFuncNested
import Derived.RangeFuncBound
import Derived.RangeFuncCalls
import Derived.RangeFuncLeaves
import Derived.Shelf.Abstract
import Derived.Shelf.RegionOpen
import Derived.WalkKit
import Derived.OwnWalkIn
import Derived.TacticsInMore
import Derived.LoopNIn
import Derived.LoopIn
import Derived.LoopTactic
import Derived.Sort.BigQuietIn
import Derived.RegionTactic
import Derived.BigRegion
import Derived.Deep.RegionHeld3
set_option linter.unusedVariables false
set_option linter.unusedSimpArgs false

/- Walks: bin.Fill at a bin of one cell. -/
namespace Go.Proofs.YtpafjhjpchdcdaaGreatDoor.Nu
open Go Go.Proofs Go.RowKit Go.Proofs.YtpafjhjpchdcdaaGreatDoor
theorem mix_one {l : List Ly} (h : l.length ≤ 1) : mixB l = false := by
  match l, h with
  | [], _ => rfl
  | [x], _ => simp [mixB, neG]
def FillP (w : World) (R : Int) (l L : List Ly) (e : Ending) (w' : World) : Prop := Below w.heap.size w w' ∧
  ((mixB (l ++ L) = true ∧ e = .returned (.tuple #[.agg #[.string ⟨#[]⟩, .int .i64 0, .int .i64 0, .int .i64 0, .slice none 0 0], .int .i64 16])) ∨
   (mixB (l ++ L) = false ∧ ∃ cv x y, e = .returned (.tuple #[binV R cv, .int .i64 0]) ∧ CeR w' cv [x] ∧ (l ++ L).head? = some y ∧ x.g = y.g ∧ x.m = sumM (l ++ L)))
def RelO (c : List (Option Value)) (j : Nat) (v : Value) (_ : World) : Prop :=
  match c[j]? with
  | some (some x) => v = x
  | _ => ∃ a k, v = .slice a 1 k
set_option maxRecDepth 100000 in
set_option maxHeartbeats 8000000 in
theorem fill9 (w : World) (hw : TbR w) (R : Int) (cv : Value) (l L : List Ly) (hR1 : 1 ≤ R) (hR2 : R ≤ 10000) (hc : CeR w cv l) (hl : l.length ≤ 1) (a2 : Option Addr) (k2 : Nat) (hL : LyR w (.slice a2 1 k2) L) (hLl : L.length = 1) (hS : sumM l + sumM L ≤ R) : Calls Tryz.prog 9 #[binV R cv, .int .i64 0, .slice a2 1 k2] w (FillP w R l L) := by
  have hm := mix_one hl
  have hb1 := sumM_bd hL.ok
  have hsum : sumM (l ++ L) = sumM l + sumM L := by
    match L, hLl with
    | [x], _ => rw [sumM_snoc]; simp [sumM]
  have HCE20 := Lib.hid (fun (w1 : World) (hb : Below w.heap.size w w1) (v : Value) (hv : Sl encI 1 w1 w1.heap.size v [0]) => cell20 w1 (hw.later hb) R cv l hR1 (by omega) (hc.later hb) (by omega) hm (by omega) v hv)
  have HCP := Lib.hid (fun (w1 : World) (hb : Below w.heap.size w w1) => checkParcel21 w1 (hw.later hb) (.slice a2 1 k2) L (hL.later hb) (by omega))
  have HFS := Lib.hid (fun (w1 : World) (E : Int) (v : Value) (h : Sl encI 1 w1 w1.heap.size v [E, 0]) => (by
    have h1 := first19 w1 v [E, 0] h
    have h2 : firstE [E, 0] = E := by by_cases h0 : E = 0 <;> simp [firstE, h0]
    rwa [h2] at h1 : Calls Tryz.prog 19 #[v] w1 fun x w' => x = .returned (.int .i64 E) ∧ w1 = w'))
  have HWN := Lib.hid (fun (w1 : World) (e : Int) => (when24 w1 false e : Calls Tryz.prog 24 #[.bool false, .int .i64 e] w1 fun x w' => x = .returned (.int .i64 0) ∧ w1 = w'))
  have hlN : (l ++ L).length ≤ 64 := by rw [List.length_append]; omega
  have HLA := Lib.hid (fun (w1 : World) (v : Value) (hb : Below w.heap.size w w1) (hs : Sl Ly.enc 3 w1 w1.heap.size v (l ++ L)) => (⟨hs, fun x hx => (List.mem_append.1 hx).elim (fun h => by obtain ⟨_, _, _, _, _, _, _, _, _, _, h3⟩ := hc.ex; exact h3.ok x h) (fun h => hL.ok x h), fun x hx => (List.mem_append.1 hx).elim (fun h => by obtain ⟨_, _, _, _, _, _, _, _, _, _, h3⟩ := hc.ex; exact (h3.sh x h).later hb) (fun h => (hL.sh x h).later hb)⟩ : LyR w1 v (l ++ L)))
  obtain ⟨b, o, c, a, n, k, rfl, hc0, hbz, hcell, hly⟩ := hc.ex
  obtain rfl : n = l.length := by obtain ⟨a', c', e, _⟩ := hly.sl; injection e
  have HCC := Lib.hid (fun (w1 : World) (hb : Below w.heap.size w w1) (p c0 : Nat) (hp0 : w1.cell? ⟨p, 0, none⟩ = some (.slice a l.length k)) (hp1 : w1.cell? ⟨p, 1, none⟩ = some (.slice a2 1 k2)) (hpz : p < w1.heap.size) => concat22 w1 p c0 a a2 k k2 l L hp0 (by rw [hLl]; exact hp1) hpz (hly.later hb) (by rw [hLl]; exact hL.later hb) hl hLl)
  have HGR := Lib.hid (fun (w1 : World) (v : Value) (hs : Sl Ly.enc 3 w1 w1.heap.size v (l ++ L)) => grains23 w1 v (l ++ L) hs)
  have HTO := Lib.hid (fun (w1 : World) (v : Value) (h : LyR w1 v (l ++ L)) => (by
    have h1 := total25 w1 v (l ++ L) h hlN
    rwa [hsum] at h1 : Calls Tryz.prog 25 #[v] w1 (Ret (.int .i64 (sumM l + sumM L)) w1)))
  have HNO := Lib.hid (fun (w1 : World) (v : Value) (h : LyR w1 v (l ++ L)) (hmx : mixB (l ++ L) = false) => normal27 w1 v (l ++ L) h hlN hmx)
  obtain ⟨S, hSS⟩ : ∃ S, sumM l + sumM L = S := ⟨_, rfl⟩
  rw [hSS] at HTO hS
  have d1 : decide (R < S) = false := decide_eq_false (by omega)
  have HCE := Lib.hid hcell
  have HBZ := Lib.hid hbz
  have HC := Lib.hid hc
  have HNE := Lib.hid (show l ++ L ≠ [] from fun e => by have h1 := congrArg List.length e; rw [List.length_append, hLl] at h1; simp at h1)
  have HSM := Lib.hid (show sumM (l ++ L) ≤ 10000 from by rw [hsum]; omega)
  have HWI := Lib.hid (fun (w1 : World) (hb : Below w.heap.size w w1) (a2 : Option Addr) (n2 k2 : Nat) (L2 : List Ly) (h : LyR w1 (.slice a2 n2 k2) L2) => with26 w1 R (.slice (some ⟨b, o, none⟩) 1 c) l L2 (hc.later hb) (by omega) hm a2 n2 k2 h)
  have HLV := Lib.hid (fun (w1 : World) (cv : Value) (x : Ly) (h : CeR w1 cv [x]) => levels29 w1 R cv [x] h (by simp))
  obtain ⟨n1, hn1⟩ : ∃ n, l.length = n := ⟨_, rfl⟩
  rw [hn1] at HCE HCC
  obtain ⟨Q, hQ⟩ : ∃ Q, FillP w R l L = Q := ⟨_, rfl⟩
  have HQ := Lib.hid hQ
  rw [hQ]
  have HLE := Lib.hid (show l.length ≤ 1 ∧ L.length ≤ 1 from ⟨hl, by omega⟩)
  clear hc hly hcell hbz hw hm hS hSS hR1 hR2 hL hQ hl hLl hb1 hsum hlN hn1
  have HB_0 := Lib.hid ((Below.refl w.heap.size w).alloc (Nat.le_refl _) (.cells #[.string ⟨#[109, 97, 115, 115]⟩, .int .i64 0, .int .i64 R, .int .i64 0, .slice (some ⟨b, o, none⟩) 1 c] 37))
  have HB := Lib.hid (HB_0.out.alloc HB_0.out.size (.cells #[.string ⟨#[]⟩, .int .i64 0, .int .i64 0, .int .i64 0, .slice none 0 0] 37))
  have HX := Lib.hid ((Box.new w #[.string ⟨#[109, 97, 115, 115]⟩, .int .i64 0, .int .i64 R, .int .i64 0, .slice (some ⟨b, o, none⟩) 1 c] 37).alloc (.cells #[.string ⟨#[]⟩, .int .i64 0, .int .i64 0, .int .i64 0, .slice none 0 0] 37))
  have HZ := Lib.hid (Box.newAt (w.alloc (.cells #[.string ⟨#[109, 97, 115, 115]⟩, .int .i64 0, .int .i64 R, .int .i64 0, .slice (some ⟨b, o, none⟩) 1 c] 37)) #[.string ⟨#[]⟩, .int .i64 0, .int .i64 0, .int .i64 0, .slice none 0 0] 37 (n := w.heap.size + 1) (by simp))
  obtain ⟨x0, x1, x2, x3, x4, xf, xz⟩ := HX.out.w5
  obtain ⟨z0, z1, z2, z3, z4, zf, zz⟩ := HZ.out.w5
  clear HB_0
  obtain ⟨W2, hW2⟩ : ∃ W, (w.alloc (.cells #[.string ⟨#[109, 97, 115, 115]⟩, .int .i64 0, .int .i64 R, .int .i64 0, .slice (some ⟨b, o, none⟩) 1 c] 37)).alloc (.cells #[.string ⟨#[]⟩, .int .i64 0, .int .i64 0, .int .i64 0, .slice none 0 0] 37) = W := ⟨_, rfl⟩
  have HB2 := Lib.hid HB.out
  have HX2 := Lib.hid HX.out
  have HZ2 := Lib.hid HZ.out
  rw [hW2] at HB2 HX2 HZ2
  clear HB HX HZ x0 x1 x2 x3 x4 xf xz z0 z1 z2 z3 z4 zf zz
  obtain ⟨x0, x1, x2, x3, x4, xf, xz⟩ := HX2.out.w5
  go_enter Tryz.func9, Tryz.ntmps9
  go_wp2_with fail
  refine (HCE20.out _ (HB2.out.trans ((alloc_below _ _).mono HB2.out.size)) _ (Sl.lit (f := encI) (sz := 1) encI_len [0] W2 #[.int .i64 0] 3 1 rfl rfl (by simp))).mono ?_
  rintro e4 w4 ⟨rfl, hb⟩
  have hb' := (alloc_below W2 (.cells #[.int .i64 0] 3)).trans (hb.mono (alloc_below W2 (.cells #[.int .i64 0] 3)).size)
  have HB := Lib.hid (HB2.out.trans (hb'.mono HB2.out.size))
  have HX := Lib.hid (HX2.out.later hb')
  have HZ := Lib.hid (HZ2.out.later hb')
  clear hb hb' x0 x1 x2 x3 x4 xf xz HB2 HX2 HZ2
  go_wp2_with fail
  refine (HCP.out _ HB.out).mono ?_
  rintro e5 w5 ⟨rfl, hb⟩
  replace HZ := Lib.hid (HZ.out.later hb)
  replace HX := Lib.hid (HX.out.later hb)
  replace HB := Lib.hid (HB.out.trans (hb.mono HB.out.size))
  clear hb hW2
  go_wp2_with fail
  refine (HFS.out _ 0 _ (Sl.lit (f := encI) (sz := 1) encI_len [0, 0] w5 #[.int .i64 0, .int .i64 0] 30 2 rfl rfl (by simp))).mono ?_
  rintro e6 w6 ⟨rfl, rfl⟩
  have hba := alloc_below w5 (.cells #[.int .i64 0, .int .i64 0] 30)
  replace HZ := Lib.hid (HZ.out.later hba)
  replace HX := Lib.hid (HX.out.later hba)
  replace HB := Lib.hid (HB.out.trans (hba.mono HB.out.size))
  clear hba
  generalize w5.alloc (.cells #[.int .i64 0, .int .i64 0] 30) = w6 at *
  have c0 : w6.cell? ⟨b, o, none⟩ = some (.slice a n1 k) := (HB.out.cell (p := ⟨b, o, none⟩) HBZ.out).trans HCE.out
  have hbz : b < w6.heap.size := Nat.lt_of_lt_of_le HBZ.out HB.out.size
  obtain ⟨x0, x1, x2, x3, x4, xf, xz⟩ := HX.out.w5
  go_wp2_with fail
  have hba := alloc_below w6 (.cells #[.slice a n1 k, .slice a2 1 k2] 50)
  have HRH := Lib.hid (Box.new w6 #[.slice a n1 k, .slice a2 1 k2] 50)
  replace HZ := Lib.hid (HZ.out.later hba)
  replace HX := Lib.hid (HX.out.later hba)
  replace HB := Lib.hid (HB.out.trans (hba.mono HB.out.size))
  clear hba c0 hbz x0 x1 x2 x3 x4 xf xz
  refine (HCC.out _ HB.out _ _ (HRH.out.cell 0) (HRH.out.cell 1) HRH.out.lt).mono ?_
  rintro e7 w7 ⟨v7, rfl, ho, hb⟩
  have HS7 := Lib.hid (show Sl Ly.enc 3 w7 w7.heap.size v7 (l ++ L) from Sl.of_owns Ly.enc_len (by rw [List.length_append]; have := HLE.out; omega) ho)
  replace HZ := Lib.hid (HZ.out.later hb)
  replace HX := Lib.hid (HX.out.later hb)
  replace HB := Lib.hid (HB.out.trans (hb.mono HB.out.size))
  have HLY := Lib.hid (HLA.out _ _ HB.out HS7.out)
  clear ho hb HRH
  obtain ⟨va, vn, vk, rfl⟩ : ∃ a n k, v7 = .slice a n k := by obtain ⟨a, c, e, _⟩ := HS7.out; exact ⟨a, _, c, e⟩
  obtain ⟨x0, x1, x2, x3, x4, xf, xz⟩ := HX.out.w5
  obtain ⟨E, hE⟩ : ∃ E : Int, (if mixB (l ++ L) = true then 16 else 0) = E := ⟨_, rfl⟩
  have HGL := Lib.hid (fun (X : Later w7) => (by
    have h := HGR.out X.w _ (HS7.out.later X.h)
    rwa [hE] at h : Calls Tryz.prog 23 #[.slice va vn vk] X.w (Ret (.int .i64 E) X.w)))
  have HTL := Lib.hid (fun (X : Later w7) => HTO.out X.w _ (HLY.out.later X.h))
  have HE := Lib.hid hE
  clear hE
  go_wp2_with fail
  refine wp_region_head_later 8 (by kernel_rfl) (by kernel_rfl) ?_
  simp only [List.take_succ_cons, List.take_zero, List.drop_succ_cons, List.drop_zero]
  repeat go_big_quiet_step ((first | (go_at_call 23; exact Calls.later (HGL.out _)) | (go_at_call 25; exact Calls.later (HTL.out _)) | (go_at_call 24; exact Calls.later_same (HWN.out _ _))))
  refine wpQuiet_nil ?_
  rintro w8 ⟨⟨_, hb⟩, rfl⟩
  clear HGL HTL x0 x1 x2 x3 x4 xf xz
  replace HZ := Lib.hid (HZ.out.later hb)
  replace HX := Lib.hid (HX.out.later hb)
  replace HB := Lib.hid (HB.out.trans (hb.mono HB.out.size))
  replace HLY := Lib.hid (HLY.out.later hb)
  clear hb HS7
  go_wp2_with fail
  refine (HFS.out _ E _ (Sl.lit (f := encI) (sz := 1) encI_len [E, 0] w8 #[.int .i64 E, .int .i64 0] 30 2 rfl rfl (by simp))).mono ?_
  rintro e9 w9 ⟨rfl, rfl⟩
  have hba := alloc_below w8 (.cells #[.int .i64 E, .int .i64 0] 30)
  replace HZ := Lib.hid (HZ.out.later hba)
  replace HX := Lib.hid (HX.out.later hba)
  replace HB := Lib.hid (HB.out.trans (hba.mono HB.out.size))
  replace HLY := Lib.hid (HLY.out.later hba)
  clear hba
  generalize w8.alloc (.cells #[.int .i64 E, .int .i64 0] 30) = w9 at *
  by_cases hmx : mixB (l ++ L) = true
  · obtain rfl : E = 16 := by rw [← HE.out, if_pos hmx]
    have HMX := Lib.hid hmx
    clear hmx
    obtain ⟨z0, z1, z2, z3, z4, zf, zz⟩ := HZ.out.w5
    go_wp2_with fail
    refine bodyPost_ret (v := .tuple #[.agg #[.string ⟨#[]⟩, .int .i64 0, .int .i64 0, .int .i64 0, .slice none 0 0], .int .i64 16]) (by simp [results, Tryz.results9, go_sem, *]) rfl ?_
    rw [← HQ.out]
    refine ⟨?_, .inl ⟨HMX.out, rfl⟩⟩
    repeat (first | with_reducible exact HB.out | with_reducible exact Below.refl _ _ | refine Below.setCell ?_ (by first | (dsimp only; omega) | (simp; done) | (simp; omega)) _ | refine Below.alloc ?_ (by first | omega | (simp; done) | (simp; omega)) _ | refine Below.drew ?_)
  · obtain rfl : E = 0 := by rw [← HE.out, if_neg hmx]
    have HMX := Lib.hid (show mixB (l ++ L) = false from by simpa using hmx)
    clear hmx
    go_wp2_with fail
    refine wp_region_rel 6 (RelF R (l ++ L) [binV R (.slice (some ⟨b, o, none⟩) 1 c), .int .i64 0, .slice va vn vk] w9.heap.size) (by kernel_rfl) (by kernel_rfl) (fun j v u u' h hb => h.later hb) ?_ ?_
    · refine ⟨?_, ?_, ?_, ?_, ?_, ?_, trivial⟩
      all_goals
        intro vs u hu hR
        simp only [putsN, List.take_succ_cons, List.take_zero, Act.put, List.setIfInBounds_toArray, List.set_cons_succ, List.set_cons_zero]
      · obtain ⟨x0, x1, x2, x3, x4, xf, xz⟩ := (HX.out.later hu).w5
        clear hR hu
        go_wp2_with fail
        exact ⟨rfl, rfl, _, _, rfl, rfl, Below.refl _ _, rfl⟩
      · clear hR hu
        go_wp2_with fail
        exact ⟨rfl, rfl, _, _, rfl, rfl, Below.refl _ _, rfl⟩
      · clear hR hu
        go_wp2_with fail
        exact ⟨rfl, rfl, _, _, rfl, rfl, Below.refl _ _, rfl⟩
      · have e2 : vs 2 = .slice va vn vk := hR 2 (by decide) (by kernel_rfl)
        have HS := Lib.hid (HNO.out u _ (HLY.out.later hu) HMX.out)
        have HOK := Lib.hid HLY.out.ok
        clear hR hu
        go_wp2_with fail
        refine HS.out.mono ?_
        rintro e11 w11 ⟨v11, rfl, hb, hcase⟩
        have hone := norm_one HNE.out HOK.out HSM.out ⟨v11, rfl, hb, hcase⟩
        go_wp2_with fail
        exact ⟨rfl, rfl, _, _, rfl, rfl, hb, .inl ⟨rfl, hone⟩⟩
      · have e0 : vs 0 = binV R (.slice (some ⟨b, o, none⟩) 1 c) := hR 0 (by decide) (by kernel_rfl)
        have e1 : vs 1 = .int .i64 0 := hR 1 (by decide) (by kernel_rfl)
        have h3 : RelF R (l ++ L) [binV R (.slice (some ⟨b, o, none⟩) 1 c), .int .i64 0, .slice va vn vk] w9.heap.size 3 (vs 3) u := hR 3 (by decide) (by kernel_rfl)
        rcases h3 with ⟨_, ga, gn, gk, gx, e3, hly3, hone⟩ | ⟨h, _⟩ | ⟨h, _⟩
        rotate_left
        · exact absurd h (by decide)
        · exact absurd h (by decide)
        rw [e3] at hly3
        have HS := Lib.hid (HWI.out u (HB.out.trans (hu.mono HB.out.size)) ga gn gk [gx] hly3)
        clear hR hu hly3
        go_wp2_with fail
        refine HS.out.mono ?_
        rintro e11 w11 ⟨cv11, rfl, hce, hb⟩
        go_wp2_with fail
        exact ⟨rfl, rfl, _, _, rfl, rfl, hb, .inr (.inl ⟨rfl, cv11, gx, rfl, hce, hone⟩)⟩
      · have hsz := hu.size
        clear hR hu
        go_wp2_with fail
        exact ⟨rfl, rfl, _, _, rfl, rfl, (Below.refl _ _).alloc (Nat.le_refl _) _, .inr (.inr ⟨rfl, _, rfl, Box.new u zeroB.toArray 37, hsz⟩)⟩
    · intro vs u hu hR
      have h4 : RelF R (l ++ L) [binV R (.slice (some ⟨b, o, none⟩) 1 c), .int .i64 0, .slice va vn vk] w9.heap.size 4 (vs 4) u := hR 4 (by decide)
      have h5 : RelF R (l ++ L) [binV R (.slice (some ⟨b, o, none⟩) 1 c), .int .i64 0, .slice va vn vk] w9.heap.size 5 (vs 5) u := hR 5 (by decide)
      rcases h4 with ⟨h, _⟩ | ⟨_, cv4, gx, e4, hce, hone⟩ | ⟨h, _⟩
      · exact absurd h (by decide)
      rotate_left
      · exact absurd h (by decide)
      rcases h5 with ⟨h, _⟩ | ⟨h, _⟩ | ⟨_, g, e5, hbx, hlo⟩
      · exact absurd h (by decide)
      · exact absurd h (by decide)
      simp only [putsN, List.drop_succ_cons, List.drop_zero, List.take_succ_cons, List.take_zero, Act.put, List.setIfInBounds_toArray, List.set_cons_succ, List.set_cons_zero, e4, e5]
      have HAP := Lib.hid (fun (w' : World) (hk : Kept (fun k => k = g) u w') => hce.apart hbx hk)
      have HG := Lib.hid hbx
      have HONE := Lib.hid hone
      have HLO := Lib.hid hlo
      have HZW := Lib.hid (show w.heap.size + 1 < w9.heap.size from HZ.out.lt)
      replace HX := Lib.hid (HX.out.later hu)
      replace HZ := Lib.hid (HZ.out.later hu)
      replace HB := Lib.hid (HB.out.trans (hu.mono HB.out.size))
      obtain ⟨bb, oo, cc, aa, nn, kk, rfl, _⟩ := hce.ex
      clear hR hu e4 e5 hbx hlo hone hce HLY HNO HWI
      obtain ⟨g0, g1, g2, g3, g4, gf, gz⟩ := HG.out.w5
      go_wp2_with fail
      have hlo := HLO.out
      have hzw := HZW.out
      have hcf := HAP.out _ ((((((Kept.refl (fun k => k = g) u).set (p := ⟨g, 0, none⟩) (.string ⟨#[109, 97, 115, 115]⟩) (.inl rfl)).set (p := ⟨g, 1, none⟩) (.int .i64 0) (.inl rfl)).set (p := ⟨g, 2, none⟩) (.int .i64 R) (.inl rfl)).set (p := ⟨g, 3, none⟩) (.int .i64 0) (.inl rfl)).set (p := ⟨g, 4, none⟩) (.slice (some ⟨bb, oo, none⟩) 1 cc) (.inl rfl))
      have hgf := (((((HG.out.set 0 (.string ⟨#[109, 97, 115, 115]⟩)).set 1 (.int .i64 0)).set 2 (.int .i64 R)).set 3 (.int .i64 0)).set 4 (.slice (some ⟨bb, oo, none⟩) 1 cc))
      simp only [List.set_cons_succ, List.set_cons_zero] at hgf
      have hxf := (((((HX.out.other (a := ⟨g, 0, none⟩) (.string ⟨#[109, 97, 115, 115]⟩) (by dsimp only; omega)).other (a := ⟨g, 1, none⟩) (.int .i64 0) (by dsimp only; omega)).other (a := ⟨g, 2, none⟩) (.int .i64 R) (by dsimp only; omega)).other (a := ⟨g, 3, none⟩) (.int .i64 0) (by dsimp only; omega)).other (a := ⟨g, 4, none⟩) (.slice (some ⟨bb, oo, none⟩) 1 cc) (by dsimp only; omega))
      have hzf := (((((HZ.out.other (a := ⟨g, 0, none⟩) (.string ⟨#[109, 97, 115, 115]⟩) (by dsimp only; omega)).other (a := ⟨g, 1, none⟩) (.int .i64 0) (by dsimp only; omega)).other (a := ⟨g, 2, none⟩) (.int .i64 R) (by dsimp only; omega)).other (a := ⟨g, 3, none⟩) (.int .i64 0) (by dsimp only; omega)).other (a := ⟨g, 4, none⟩) (.slice (some ⟨bb, oo, none⟩) 1 cc) (by dsimp only; omega))
      have hbf := (((((HB.out.setCell (p := ⟨g, 0, none⟩) (by dsimp only; omega) (.string ⟨#[109, 97, 115, 115]⟩)).setCell (p := ⟨g, 1, none⟩) (by dsimp only; omega) (.int .i64 0)).setCell (p := ⟨g, 2, none⟩) (by dsimp only; omega) (.int .i64 R)).setCell (p := ⟨g, 3, none⟩) (by dsimp only; omega) (.int .i64 0)).setCell (p := ⟨g, 4, none⟩) (by dsimp only; omega) (.slice (some ⟨bb, oo, none⟩) 1 cc))
      clear HAP HG HX HZ HB g0 g1 g2 g3 g4 gf gz
      have HCE2 := Lib.hid hcf
      have HG := Lib.hid hgf
      have HX := Lib.hid hxf
      have HZ := Lib.hid hzf
      have HB := Lib.hid hbf
      clear hcf hgf hxf hzf hbf
      generalize (((((u.setCell ⟨g, 0, none⟩ (.string ⟨#[109, 97, 115, 115]⟩)).setCell ⟨g, 1, none⟩ (.int .i64 0)).setCell ⟨g, 2, none⟩ (.int .i64 R)).setCell ⟨g, 3, none⟩ (.int .i64 0)).setCell ⟨g, 4, none⟩ (.slice (some ⟨bb, oo, none⟩) 1 cc)) = WF at *
      obtain ⟨bb', oo', cc', aa, nn, kk, hbe, hb0, hb1, hb2, hb3⟩ := HCE2.out.ex
      injection hbe with hbe1 hbe2 hbe3
      injection hbe1 with hbe1
      injection hbe1 with hbe4 hbe5
      subst hbe4 hbe5 hbe3
      obtain rfl : nn = 1 := by obtain ⟨a', c', e, _⟩ := hb3.sl; injection e
      have HB1 := Lib.hid hb1
      have HB2 := Lib.hid hb2
      clear hb0 hb1 hb2 hb3 hbe2
      refine wp_region_rel 12 (RelO [some (binV R (.slice (some ⟨b, o, none⟩) 1 c)), some (binV R (.slice (some ⟨bb, oo, none⟩) 1 cc)), none, some (.int .i64 0), some (.pointer (some ⟨g, 4, none⟩)), some (.slice (some ⟨bb, oo, none⟩) 1 cc), some (.int .i64 0), some (.pointer (some ⟨bb, oo, none⟩)), some (.slice aa 1 kk), some (.int .i64 1), some (.bool false), some (.int .i64 0)]) (by kernel_rfl) (by kernel_rfl) (fun j v u u' h hb => h) ?_ ?_
      · refine ⟨?_, ?_, ?_, ?_, ?_, ?_, ?_, ?_, ?_, ?_, ?_, ?_, trivial⟩
        all_goals
          intro vs u hu hR
          simp only [putsN, List.take_succ_cons, List.take_zero, Act.put, List.setIfInBounds_toArray, List.set_cons_succ, List.set_cons_zero]
        · obtain ⟨x0, x1, x2, x3, x4, xf, xz⟩ := (HX.out.later hu).w5
          clear hR hu
          go_wp2_with fail
          exact ⟨rfl, rfl, _, _, rfl, rfl, Below.refl _ _, rfl⟩
        · obtain ⟨x0, x1, x2, x3, x4, xf, xz⟩ := (HG.out.later hu).w5
          clear hR hu
          go_wp2_with fail
          exact ⟨rfl, rfl, _, _, rfl, rfl, Below.refl _ _, rfl⟩
        · have e1 : vs 1 = binV R (.slice (some ⟨bb, oo, none⟩) 1 cc) := hR 1 (by decide) (by kernel_rfl)
          have HS := Lib.hid (HLV.out u _ _ (HCE2.out.later hu))
          clear hR hu
          go_wp2_with fail
          refine HS.out.mono ?_
          rintro e11 w11 ⟨a11, c11, rfl, _, hb⟩
          go_wp2_with fail
          exact ⟨rfl, rfl, _, _, rfl, rfl, hb, ⟨_, _, rfl⟩⟩
        · have e0 : vs 0 = binV R (.slice (some ⟨b, o, none⟩) 1 c) := hR 0 (by decide) (by kernel_rfl)
          obtain ⟨a2', c2', e2⟩ : ∃ a k, vs 2 = .slice a 1 k := hR 2 (by decide) (by kernel_rfl)
          have HS := Lib.hid (steep28 u R (.slice (some ⟨b, o, none⟩) 1 c) ⟨_, _, _, rfl⟩ a2' c2')
          clear hR hu
          go_wp2_with fail
          refine HS.out.mono ?_
          rintro e11 w11 ⟨rfl, hb⟩
          go_wp2_with fail
          exact ⟨rfl, rfl, _, _, rfl, rfl, hb, rfl⟩
        · obtain ⟨x0, x1, x2, x3, x4, xf, xz⟩ := (HG.out.later hu).w5
          clear hR hu
          go_wp2_with fail
          exact ⟨rfl, rfl, _, _, rfl, rfl, Below.refl _ _, rfl⟩
        · have e4 : vs 4 = .pointer (some ⟨g, 4, none⟩) := hR 4 (by decide) (by kernel_rfl)
          obtain ⟨x0, x1, x2, x3, x4, xf, xz⟩ := (HG.out.later hu).w5
          clear hR hu
          go_wp2_with fail
          exact ⟨rfl, rfl, _, _, rfl, rfl, Below.refl _ _, rfl⟩
        · clear hR hu
          go_wp2_with fail
          exact ⟨rfl, rfl, _, _, rfl, rfl, Below.refl _ _, rfl⟩
        · have e5 : vs 5 = .slice (some ⟨bb, oo, none⟩) 1 cc := hR 5 (by decide) (by kernel_rfl)
          have e6 : vs 6 = .int .i64 0 := hR 6 (by decide) (by kernel_rfl)
          clear hR hu
          go_wp2_with fail
          exact ⟨rfl, rfl, _, _, rfl, rfl, Below.refl _ _, rfl⟩
        · have e7 : vs 7 = .pointer (some ⟨bb, oo, none⟩) := hR 7 (by decide) (by kernel_rfl)
          have c0 : u.cell? ⟨bb, oo, none⟩ = some (.slice aa 1 kk) := (hu.cell (p := ⟨bb, oo, none⟩) HB1.out).trans HB2.out
          have cz : bb < u.heap.size := Nat.lt_of_lt_of_le HB1.out hu.size
          clear hR hu
          go_wp2_with fail
          exact ⟨rfl, rfl, _, _, rfl, rfl, Below.refl _ _, rfl⟩
        · have e8 : vs 8 = .slice aa 1 kk := hR 8 (by decide) (by kernel_rfl)
          clear hR hu
          go_wp2_with fail
          exact ⟨rfl, rfl, _, _, rfl, rfl, Below.refl _ _, rfl⟩
        · have e9 : vs 9 = .int .i64 1 := hR 9 (by decide) (by kernel_rfl)
          clear hR hu
          go_wp2_with fail
          exact ⟨rfl, rfl, _, _, rfl, rfl, Below.refl _ _, rfl⟩
        · have e10 : vs 10 = .bool false := hR 10 (by decide) (by kernel_rfl)
          have HS := Lib.hid (HWN.out u 5)
          clear hR hu
          go_wp2_with fail
          refine HS.out.mono ?_
          rintro e11 w11 ⟨rfl, rfl⟩
          go_wp2_with fail
          exact ⟨rfl, rfl, _, _, rfl, rfl, Below.refl _ _, rfl⟩
      · intro vs u hu hR
        have e3 : vs 3 = .int .i64 0 := hR 3 (by decide)
        have e11 : vs 11 = .int .i64 0 := hR 11 (by decide)
        simp only [putsN, List.drop_succ_cons, List.drop_zero, List.take_succ_cons, List.take_zero, Act.put, List.setIfInBounds_toArray, List.set_cons_succ, List.set_cons_zero, e3, e11]
        replace HX := Lib.hid (HX.out.later hu)
        replace HG := Lib.hid (HG.out.later hu)
        replace HZ := Lib.hid (HZ.out.later hu)
        replace HB := Lib.hid (HB.out.trans (hu.mono HB.out.size))
        replace HCE2 := Lib.hid (HCE2.out.later hu)
        clear hR hu e3 e11 HB1 HB2
        go_wp2_with fail
        refine (HFS.out _ 0 _ (Sl.lit (f := encI) (sz := 1) encI_len [0, 0] u #[.int .i64 0, .int .i64 0] 30 2 rfl rfl (by simp))).mono ?_
        rintro e12 w12 ⟨rfl, rfl⟩
        have hba := alloc_below u (.cells #[.int .i64 0, .int .i64 0] 30)
        replace HZ := Lib.hid (HZ.out.later hba)
        replace HG := Lib.hid (HG.out.later hba)
        replace HB := Lib.hid (HB.out.trans (hba.mono HB.out.size))
        replace HCE2 := Lib.hid (HCE2.out.later hba)
        clear hba
        generalize u.alloc (.cells #[.int .i64 0, .int .i64 0] 30) = w12 at *
        obtain ⟨g0, g1, g2, g3, g4, gf, gz⟩ := HG.out.w5
        obtain ⟨z0, z1, z2, z3, z4, zf, zz⟩ := HZ.out.w5
        go_wp2_with fail
        have hcf := HCE2.out.apart HZ.out ((((((Kept.refl (fun k => k = w.heap.size + 1) w12).set (p := ⟨w.heap.size + 1, 0, none⟩) (.string ⟨#[109, 97, 115, 115]⟩) (.inl rfl)).set (p := ⟨w.heap.size + 1, 1, none⟩) (.int .i64 0) (.inl rfl)).set (p := ⟨w.heap.size + 1, 2, none⟩) (.int .i64 R) (.inl rfl)).set (p := ⟨w.heap.size + 1, 3, none⟩) (.int .i64 0) (.inl rfl)).set (p := ⟨w.heap.size + 1, 4, none⟩) (.slice (some ⟨bb, oo, none⟩) 1 cc) (.inl rfl))
        have hzf := (((((HZ.out.set 0 (.string ⟨#[109, 97, 115, 115]⟩)).set 1 (.int .i64 0)).set 2 (.int .i64 R)).set 3 (.int .i64 0)).set 4 (.slice (some ⟨bb, oo, none⟩) 1 cc))
        simp only [List.set_cons_succ, List.set_cons_zero] at hzf
        have hbf := (((((HB.out.setCell (p := ⟨w.heap.size + 1, 0, none⟩) (Nat.le_succ _) (.string ⟨#[109, 97, 115, 115]⟩)).setCell (p := ⟨w.heap.size + 1, 1, none⟩) (Nat.le_succ _) (.int .i64 0)).setCell (p := ⟨w.heap.size + 1, 2, none⟩) (Nat.le_succ _) (.int .i64 R)).setCell (p := ⟨w.heap.size + 1, 3, none⟩) (Nat.le_succ _) (.int .i64 0)).setCell (p := ⟨w.heap.size + 1, 4, none⟩) (Nat.le_succ _) (.slice (some ⟨bb, oo, none⟩) 1 cc))
        clear HG HX HZ HB HCE2 g0 g1 g2 g3 g4 gf gz z0 z1 z2 z3 z4 zf zz
        have HCF := Lib.hid hcf
        have HZ := Lib.hid hzf
        have HB := Lib.hid hbf
        clear hcf hzf hbf
        generalize (((((w12.setCell ⟨w.heap.size + 1, 0, none⟩ (.string ⟨#[109, 97, 115, 115]⟩)).setCell ⟨w.heap.size + 1, 1, none⟩ (.int .i64 0)).setCell ⟨w.heap.size + 1, 2, none⟩ (.int .i64 R)).setCell ⟨w.heap.size + 1, 3, none⟩ (.int .i64 0)).setCell ⟨w.heap.size + 1, 4, none⟩ (.slice (some ⟨bb, oo, none⟩) 1 cc)) = WG at *
        obtain ⟨z0, z1, z2, z3, z4, zf, zz⟩ := HZ.out.w5
        refine bodyPost_ret (v := .tuple #[binV R (.slice (some ⟨bb, oo, none⟩) 1 cc), .int .i64 0]) (by simp [results, Tryz.results9, go_sem, z0, z1, z2, z3, z4, zf, zz]) rfl ?_
        rw [← HQ.out]
        obtain ⟨y, hy1, hy2, hy3⟩ := HONE.out
        exact ⟨HB.out, .inr ⟨HMX.out, _, gx, y, rfl, HCF.out, hy1, hy2, hy3⟩⟩
end Go.Proofs.YtpafjhjpchdcdaaGreatDoor.Nu
/- A map to bools that a call makes, as the list of its keys that hold true. -/
namespace Go.Proofs.YtpafjhjpchdcdaaGreatDoor
open Go Go.Proofs Go.RowKit Go.Maps
def SetM {κ : Type} [DecidableEq κ] (f : κ → Lit) (P : Program) (k e : TypeId) (w : World) (b : Nat) (L : List κ) : Prop :=
  ∃ D : DataW Unit, w.ownsMap P k (plainElem P e) b L.length D ∧ IsMap D ∧ ∀ x, D.atKey (f x) (.lit (.bool false)) = .lit (.bool (decide (x ∈ L)))
section
variable {κ : Type} [DecidableEq κ] {f : κ → Lit} {P : Program} {k e : TypeId} {w w' : World} {b : Nat} {L : List κ}
theorem SetM.kept {row : Option Nat} (h : SetM f P k e w b L) (hg : w.grownBy w' row) (hne : some b ≠ row) : SetM f P k e w' b L :=
  let ⟨D, h1, h2⟩ := h; ⟨D, h1.kept hg hne, h2⟩
theorem SetM.later (h : SetM f P k e w b L) (hb : Below w.heap.size w w') : SetM f P k e w' b L :=
  h.kept (row := none) ⟨hb.os, hb.tape, hb.output, hb.size, fun k hk _ => hb.block k hk⟩ (by simp)
theorem SetM.alloc (h : SetM f P k e w b L) (o : Obj) : SetM f P k e (w.alloc o) b L := h.later ((Below.refl _ _).alloc (Nat.le_refl _) _)
theorem SetM.lt (h : SetM f P k e w b L) : b < w.heap.size := let ⟨_, h1, _⟩ := h; h1.lt
end
end Go.Proofs.YtpafjhjpchdcdaaGreatDoor
/- Walks: the iterator over the machines that a machine can feed. -/
namespace Go.Proofs.YtpafjhjpchdcdaaGreatDoor
open Go Go.Proofs Go.RowKit Go.Shelf
attribute [local go_sem] Oper.semAt_some
def encN (x : Int) : Array Value := #[.int .i64 x]
structure NxR (w : World) (q B : Nat) (v1 v2 : Value) (p : Pl) (m : Int) : Prop where
  b1 : Box w q 25 [v1, v2]
  b2 : Box w (q + 1) 3 [.int .i64 m]
  arcs : Sl Ar.enc 2 w B v2 p.arcs
  lt : B ≤ w.heap.size
theorem NxR.later {w w' : World} {q B : Nat} {v1 v2 : Value} {p : Pl} {m : Int} (h : NxR w q B v1 v2 p m) (hb : Below w.heap.size w w') : NxR w' q B v1 v2 p m :=
  ⟨h.b1.later hb, h.b2.later hb, h.arcs.below (hb.mono h.lt), Nat.le_trans h.lt hb.size⟩
structure KpN (q B : Nat) (v1 v2 : Value) (p : Pl) (m : Int) (w w' : World) : Prop where
  it : NxR w q B v1 v2 p m → NxR w' q B v1 v2 p m
  size : w.heap.size ≤ w'.heap.size
theorem KpN.t {q B : Nat} {v1 v2 : Value} {p : Pl} {m : Int} {x y z : World} (h : KpN q B v1 v2 p m x y) (k : KpN q B v1 v2 p m y z) : KpN q B v1 v2 p m x z :=
  ⟨fun i => k.it (h.it i), Nat.le_trans h.size k.size⟩
end Go.Proofs.YtpafjhjpchdcdaaGreatDoor
/- A loop with a measure that stands in no slot; the marks that ranges over a function leave behind them; pieces of code. -/
namespace Go.Proofs.YtpafjhjpchdcdaaGreatDoor
open Go Go.Proofs Go.RowKit Go.Shelf
def codeL : Code → Code
  | .seq a _ => a | .block _ b => b | .loop b => b | .scope b => b | .cond _ a _ => a | .rangeFunc _ _ a _ => a | c => c
def codeR : Code → Code
  | .seq _ b => b | .cond _ _ b => b | .rangeFunc _ _ _ b => b | c => c
section
variable {P : Program} {Q : Exit → Act → World → Prop} {a : Act} {w : World}
theorem least_exists (p : Nat → Prop) (h : ∃ n, p n) : ∃ n, p n ∧ ∀ k, p k → n ≤ k := by
  obtain ⟨n, hn⟩ := h
  induction n using Nat.strongRecOn with
  | _ n ih =>
    by_cases h : ∃ k, k < n ∧ p k
    · obtain ⟨k, hk, hp⟩ := h; exact ih k hk hp
    · exact ⟨n, hn, fun k hk => Nat.le_of_not_lt fun hlt => h ⟨k, hlt, hk⟩⟩
open Classical in
noncomputable def leastN (p : Nat → Prop) : Nat := if h : ∃ n, p n then Classical.choose (least_exists p h) else 0
theorem leastN_spec {p : Nat → Prop} (h : ∃ n, p n) : p (leastN p) ∧ ∀ k, p k → leastN p ≤ k := by
  unfold leastN; rw [dif_pos h]; exact Classical.choose_spec (least_exists p h)
theorem leastN_lt {p q : Nat → Prop} {m : Nat} (h : p m) (hm : m < leastN q) : leastN p < leastN q := Nat.lt_of_le_of_lt ((leastN_spec ⟨m, h⟩).2 m h) hm
end
theorem list_range (L : List Value) (n : Nat) (h : L.length = n) : L = (List.range n).map fun i => L.getD i undef := by
  apply List.ext_getElem?
  intro i
  by_cases hi : i < L.length
  · simp [← h, hi]
  · rw [List.getElem?_eq_none (by omega), List.getElem?_eq_none (by simp; omega)]
def NoCells (W : World) (row : Option Nat) : Prop := ∀ r, row = some r → ∃ o : Obj, W.heap[r]? = some o ∧ o.isCells = false
theorem NoCells.cell {W : World} {row : Option Nat} (h : NoCells W row) {a : Addr} {v : Value} (hc : W.cell? a = some v) : some a.block ≠ row := fun e' => by
  obtain ⟨o, ho, hc'⟩ := h a.block e'.symm
  obtain ⟨o', ho', hc''⟩ := cells_of_cell hc
  rw [ho] at ho'; cases ho'; rw [hc'] at hc''; cases hc''
def MarksIn (W : World) (Ds : List Nat) : Prop := ∀ D ∈ Ds, W.heap[D]? = some (.deferred (some []))
theorem MarksIn.keeps {W W' : World} {Ds : List Nat} (h : MarksIn W Ds) (hk : KeepsOthers W W') : MarksIn W' Ds := fun D hD => hk.same D _ (h D hD) rfl
theorem MarksIn.later {W W' : World} {Ds : List Nat} (h : MarksIn W Ds) (hb : Below W.heap.size W W') : MarksIn W' Ds := fun D hD => (hb.block D (Array.getElem?_eq_some_iff.1 (h D hD)).1).trans (h D hD)
end Go.Proofs.YtpafjhjpchdcdaaGreatDoor
/- Walks: Route: the way back, and its turning. -/
namespace Go.Proofs.YtpafjhjpchdcdaaGreatDoor
open Go Go.Proofs Go.RowKit Go.Shelf
theorem own_rev {w : World} {base g n cap m : Nat} {L T : List Int} (h : Own encI 1 3 w base (.slice (some ⟨g, 0, none⟩) n cap) L) (hn : L.length = n) (hT : T.length = n) :
    Own encI 1 3 (Sort.putRow (Value.int .i64) (Sort.ahead w m) g 0 T.toArray) base (.slice (some ⟨g, 0, none⟩) n cap) T := by
  obtain ⟨h0, h1⟩ := h
  rcases h1 with ⟨h2, _⟩ | ⟨g', cap', cur, e, hb, hh, hc1, hc2, hc3, hc4⟩
  · cases h2
  · simp only [Value.slice.injEq, Option.some.injEq, Addr.mk.injEq, and_true, true_and] at e
    obtain ⟨rfl, _, rfl⟩ := e
    refine ⟨flat_length encI 1 encI_len T, .inr ⟨g, cap, Sort.putCells (Value.int .i64) 0 T.toArray cur, by rw [hT], hb, ?_, by omega, hc2, by simp [Sort.putCells, hc3], ?_⟩⟩
    · simp [Sort.putRow, Sort.mapBlock, Sort.ahead, Array.getElem?_modify, hh, Sort.onCells]
    · apply List.ext_getElem?
      intro j
      by_cases hj : j < T.length * 1
      · have hd : j < T.length := by omega
        have h5 := flat_get encI 1 encI_len T j hd 0 (by omega)
        rw [show j * 1 + 0 = j by omega] at h5
        rw [h5, List.getElem?_take_of_lt hj, Array.getElem?_toList]
        have hjc : j < cur.size := by rw [hc3]; omega
        simp only [Sort.putCells, Array.getElem?_mapIdx, Array.getElem?_eq_getElem hjc, Option.map_some, Nat.zero_le, Nat.zero_add, Nat.sub_zero, true_and]
        rw [if_pos (by simpa using hd)]
        simp [encI, hd]
      · rw [List.getElem?_take_eq_none (by omega), List.getElem?_eq_none (by rw [flat_length encI 1 encI_len]; omega)]
end Go.Proofs.YtpafjhjpchdcdaaGreatDoor
/- Walks: exit and entry: the two nodes of a machine. -/
namespace Go.Proofs.YtpafjhjpchdcdaaGreatDoor
open Go Go.Proofs Go.RowKit Go.Shelf
set_option maxRecDepth 100000 in
set_option maxHeartbeats 400000 in
theorem exit120 (x : Int) (w : World) (hx : 0 ≤ x ∧ x ≤ 1000000) : Calls Tryz.prog 68 #[.int .i64 x] w fun e w' => e = .returned (.int .i64 (2 * x + 1)) ∧ w' = w := by
  obtain ⟨h1, h2⟩ := hx
  have k1 : IntKind.i64.wrap (2 * x) = 2 * x := IntWalk.i64_in _ (by omega)
  have k2 : IntKind.i64.wrap (2 * x + 1) = 2 * x + 1 := IntWalk.i64_in _ (by omega)
  go_enter Tryz.func68, Tryz.ntmps68
  go_wp2_with fail
  go_ret
  exact ⟨by first | rfl | simp [k1, k2], rfl⟩
set_option maxRecDepth 100000 in
set_option maxHeartbeats 400000 in
theorem entry121 (x : Int) (w : World) (hx : 0 ≤ x ∧ x ≤ 1000000) : Calls Tryz.prog 67 #[.int .i64 x] w fun e w' => e = .returned (.int .i64 (2 * x)) ∧ w' = w := by
  obtain ⟨h1, h2⟩ := hx
  have k1 : IntKind.i64.wrap (2 * x) = 2 * x := IntWalk.i64_in _ (by omega)
  go_enter Tryz.func67, Tryz.ntmps67
  go_wp2_with fail
  go_ret
  exact ⟨by first | rfl | simp [k1], rfl⟩
end Go.Proofs.YtpafjhjpchdcdaaGreatDoor
/- Walks: the two closures of checkEnds. -/
namespace Go.Proofs.YtpafjhjpchdcdaaGreatDoor
open Go Go.Proofs Go.RowKit Go.Shelf
set_option maxRecDepth 100000 in
set_option maxHeartbeats 400000 in
theorem in159 (v : Value) (l : List Int) (x : Int) (q : Nat) (w : World) (hq : Box w q 34 [v]) (hv : Sl encI 1 w w.heap.size v l) : Calls Tryz.prog 87 (#[.int .i64 x] ++ #[.pointer (some ⟨q, 0, none⟩)]) w (Ret (.bool (l.contains x)) w) := by
  have c0 := hq.cell 0
  have cz := hq.lt
  simp only [List.getElem?_cons_zero] at c0
  have H := Lib.hid (contains82 v l x w hv)
  obtain ⟨R, hR⟩ : ∃ R, l.contains x = R := ⟨_, rfl⟩
  rw [hR] at H ⊢
  clear hR hq hv
  go_enter Tryz.func87, Tryz.ntmps87
  go_wp2_with fail
  refine H.out.mono ?_
  rintro e _ ⟨rfl, rfl⟩
  go_wp2_with fail
  go_ret
  exact ⟨rfl, Below.refl _ _⟩
set_option maxRecDepth 100000 in
set_option maxHeartbeats 400000 in
theorem no158 (g : Nat) (hg : g = 81 ∨ g = 82) (v : Value) (b1 off1 n c1 : Nat) (v2 : Value) (s : ByteArray) (t : Int) (x q1 q2 : Nat) (w : World) (hwd : WdR w) (hq1 : Box w q1 125 [v, .func (.func g) #[] #[]]) (hq2 : Box w q2 25 [.slice (some ⟨b1, off1, none⟩) n c1, v2])
    (hx : x < n) (hn : n ≤ 64) (hat : At w b1 (off1 + x * 2) [.string s, .int .i64 t]) (hb : b1 < w.heap.size) :
    Calls Tryz.prog 83 (#[.int .i64 (x : Int)] ++ #[.pointer (some ⟨q1, 0, none⟩), .pointer (some ⟨q2, 0, none⟩)]) w (Ret (.bool (!(if g = 81 then bgB s else enB s))) w) := by
  obtain ⟨x0, x1, xf, xz⟩ := hq1.v2
  obtain ⟨y0, y1, yf, yz⟩ := hq2.v2
  obtain ⟨k0, k1⟩ := hat.c2
  have hx64 : (x : Int) < 64 := by omega
  have hx0 : (0 : Int) ≤ x := by omega
  have hcall : ∀ X : Later w, Calls Tryz.prog g #[.agg #[.string s, .int .i64 t]] X.w (Ret (.bool (if g = 81 then bgB s else enB s)) X.w) := fun X => by
    rcases hg with rfl | rfl
    · exact begins80 s t X.w (hwd.later X.h)
    · exact ends81 s t X.w (hwd.later X.h)
  have HK := Lib.hid hcall
  obtain ⟨R, hR⟩ : ∃ R, (if g = 81 then bgB s else enB s) = R := ⟨_, rfl⟩
  rw [hR] at HK ⊢
  clear hcall hR hq1 hq2 hat hwd
  rcases hg with rfl | rfl
  · go_enter Tryz.func83, Tryz.ntmps83
    go_wp2_with fail
    refine wp_region_later (by kernel_rfl) (by kernel_rfl) ?_
    repeat go_big_quiet_step ((go_at_call 81; exact Calls.later (HK.out _)))
    refine wpQuiet_nil ?_
    rintro w2 ⟨⟨_, hb2⟩, rfl⟩
    go_wp2_with fail
    go_ret
    exact ⟨rfl, hb2⟩
  · go_enter Tryz.func83, Tryz.ntmps83
    go_wp2_with fail
    refine wp_region_later (by kernel_rfl) (by kernel_rfl) ?_
    repeat go_big_quiet_step ((go_at_call 82; exact Calls.later (HK.out _)))
    refine wpQuiet_nil ?_
    rintro w2 ⟨⟨_, hb2⟩, rfl⟩
    go_wp2_with fail
    go_ret
    exact ⟨rfl, hb2⟩
end Go.Proofs.YtpafjhjpchdcdaaGreatDoor
