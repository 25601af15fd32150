/- Lemmas on the way to the laws (part 16): Bq Ca Cb -/
import Derived.Test.YtahpdkkpnkhnhaaGreatDoorLib15
import Derived.RangeFuncNested
import Derived.RangeFuncBound
import Derived.RangeFuncCalls
import Derived.RangeFuncLeaves
import Derived.Shelf.Abstract
import Derived.Shelf.RegionOpen
import Derived.WalkKit
import Derived.OwnWalkIn
import Derived.TacticsInMore
import Derived.LoopNIn
import Derived.LoopIn
import Derived.LoopTactic
set_option linter.unusedVariables false
set_option linter.unusedSimpArgs false

/- Walks: Bound. -/
namespace Go.Proofs.YtahpdkkpnkhnhaaGreatDoor
open Go Go.Proofs Go.RowKit Go.Shelf

def boundV (p : Pl) (ts : List Tk) : Int × Int := if ckTasks p ts ≠ 0 then (0, ckTasks p ts) else (boundTo p ts p.ms.length, 0)
set_option maxRecDepth 100000 in
set_option maxHeartbeats 4000000 in
theorem bound70 (w : World) (v1 v2 u : Value) (p : Pl) (ts : List Tk) (hw : WdR w) (hv : PlR w w.heap.size v1 v2 p) (hu : TasksR w w.heap.size u ts) (hs : SzT ts) : Calls Tryz.prog 70 #[.agg #[v1, v2], u] w (Ret (.tuple #[.int .i64 (boundV p ts).1, .int .i64 (boundV p ts).2]) w) := by
  have HPL := Lib.hid (fun (w1 : World) (hb : Below w.heap.size w w1) => hv.later hb)
  have HP := Lib.hid (fun (w1 : World) (hb : Below w.heap.size w w1) => checkTasks53 w1 _ _ u p ts (hw.later hb) (hv.later hb) (hu.later hb) hs)
  have HCK := Lib.hid (fun (h : ckTasks p ts = 0) => ckTasks_ok h)
  obtain ⟨⟨a1, n1, rfl, hl1, hA1⟩, ⟨a2, n2, rfl, hl2, hA2⟩⟩ := hv
  obtain ⟨a, c, rfl, hlen, hA⟩ := hu
  have HA := Lib.hid hA
  have HA1 := Lib.hid hA1
  clear hA hA1 hA2 hl2 hw hs
  obtain ⟨hl, hlc⟩ := hlen
  obtain ⟨h11, h12⟩ := hl1
  have HB := Lib.hid ((Below.refl w.heap.size w).alloc (Nat.le_refl _) (.cells #[.slice a1 p.ms.length n1, .slice a2 p.arcs.length n2] 25))
  have HX := Lib.hid (Box.new w #[.slice a1 p.ms.length n1, .slice a2 p.arcs.length n2] 25)
  obtain ⟨V, hV⟩ : ∃ V, boundV p ts = V := ⟨_, rfl⟩
  rw [hV]
  unfold boundV at hV
  have HV := Lib.hid hV
  clear hV
  obtain ⟨n, hn⟩ : ∃ n, p.ms.length = n := ⟨_, rfl⟩
  obtain ⟨m, hm⟩ : ∃ m, p.arcs.length = m := ⟨_, rfl⟩
  obtain ⟨ln, hln⟩ : ∃ m, ts.length = m := ⟨_, rfl⟩
  rw [hln] at hl hlc HP ⊢
  rw [hn] at HB HX HP HPL HV h11 h12 ⊢
  rw [hm] at HB HX HP HPL ⊢
  have HN := Lib.hid hn
  have HLN := Lib.hid hln
  clear hn hm hln
  obtain ⟨cp, hcp⟩ : ∃ c, ckTasks p ts = c := ⟨_, rfl⟩
  rw [hcp] at HP HV HCK
  clear hcp
  go_enter Tryz.func70, Tryz.ntmps70
  go_wp2_with fail
  refine (HP.out _ HB.out).mono ?_
  rintro e w2 ⟨rfl, hb2⟩
  have HB2 := Lib.hid (HB.out.trans (hb2.mono HB.out.size))
  have HX2 := Lib.hid (HX.out.later hb2)
  obtain ⟨x0, x1, xf, xz⟩ := HX2.out.v2
  clear hb2
  by_cases hc0 : cp = 0
  rotate_left
  · have k0 : (cp != 0) = true := by simpa using hc0
    rw [if_pos hc0] at HV
    clear hc0
    go_wp2_with fail
    go_ret2
    exact ⟨by rw [← HV.out]; rfl, HB2.out⟩
  subst hc0
  rw [if_neg (by simp)] at HV
  obtain ⟨hok, h16, htk⟩ := HCK.out rfl
  have HOK := Lib.hid hok
  have HTK := Lib.hid (fun t ht => (ckTk_ok (htk t ht)).1)
  have hn64 : n ≤ 64 := by rw [← HN.out]; exact hok.le
  rw [HLN.out] at h16
  clear hok htk HCK
  go_wp2_with fail
  go_loopw [26, 7] (fun i o wr => ∃ k : Nat, k ≤ n ∧ i = .int .i64 k ∧ o = .int .i64 (boundTo p ts k) ∧ 0 ≤ boundTo p ts k ∧ boundTo p ts k ≤ 30000000 ∧ Box wr w.heap.size 25 [.slice a1 n n1, .slice a2 m n2] ∧ Below w.heap.size w wr) (fun i _ _ => n - (intOf i).toNat)
  case atStart => exact ⟨0, by omega, rfl, rfl, by simp [boundTo], by simp [boundTo], HX2.out, HB2.out⟩
  case round =>
    clear HB HX HB2 HX2 x0 x1 xf xz
    obtain ⟨k, hk, rfl, rfl, hb0, hb1, hx, hbe⟩ := hrel
    have HXE := Lib.hid hx
    have HBE := Lib.hid hbe
    clear hx hbe
    by_cases hlt : k < n
    rotate_left
    · obtain rfl : n = k := by omega
      go_wp2_with fail
      go_ret2
      exact ⟨by rw [← HV.out]; rfl, HBE.out⟩
    have HBS := Lib.hid (show boundTo p ts (k + 1) = bPut (boundTo p ts k) (bMach p ts k) from rfl)
    generalize boundTo p ts k = bo at *
    obtain ⟨U, hU⟩ : ∃ U : World, U = wr := ⟨_, rfl⟩
    subst hU
    have hkp : k < p.ms.length := by rw [HN.out]; exact hlt
    obtain ⟨b1, off1, rfl, hbb1, hcells1⟩ := HA1.out (by omega)
    have HCM := Lib.hid (hcells1 k hkp)
    have HTM := Lib.hid (tAt_nat hkp)
    have HTB := Lib.hid (HOK.out.times p.ms[k] (List.getElem_mem hkp))
    clear hcells1
    generalize p.ms[k] = mk at *
    obtain ⟨sk, tk⟩ := mk
    dsimp only at HTM HTB
    obtain ⟨ht0, ht1⟩ := HTB.out
    go_wp2_with fail
    go_loopw [31, 9, 10, 11] (fun i a s b wr => ∃ j : Nat, j ≤ ln ∧ i = .int .i64 j ∧ ∃ z : Int × Int × Int, (ts.take j).foldl (bStep p k) (-1, 0, -1) = z ∧ bndP j z ∧ a = .int .i64 z.1 ∧ s = .int .i64 z.2.1 ∧ b = .int .i64 z.2.2 ∧ Box wr w.heap.size 25 [.slice (some ⟨b1, off1, none⟩) n n1, .slice a2 m n2] ∧ Below w.heap.size w wr) (fun i _ _ _ _ => ln - (intOf i).toNat)
    case atStart => exact ⟨0, by omega, rfl, (-1, 0, -1), by simp, ⟨by decide, by decide, by decide, by decide, by decide, by decide⟩, rfl, rfl, rfl, HXE.out, HBE.out⟩
    case round =>
      clear HXE HBE
      obtain ⟨j, hj, rfl, ⟨a', s', b'⟩, hz, hbn, rfl, rfl, rfl, hx, hbe⟩ := hrel
      have HZ := Lib.hid hz
      have HBN := Lib.hid hbn
      have HXE := Lib.hid hx
      have HBE := Lib.hid hbe
      obtain ⟨z1, z2, z3, z4, z5, z6⟩ := hbn
      dsimp only at z1 z2 z3 z4 z5 z6
      dsimp only
      clear hz hx hbe
      by_cases hjl : j < ln
      rotate_left
      · obtain rfl : ln = j := by omega
        have HMA := Lib.hid (show bMach p ts k = (a', s', b') by unfold bMach; rw [← HZ.out, ← HLN.out, List.take_length])
        rw [HMA.out] at HBS
        unfold bPut at HBS
        dsimp only at HBS
        by_cases hs : 0 < s'
        · have k1 : decide (0 < s') = true := decide_eq_true hs
          rw [if_pos hs] at HBS
          clear hs
          obtain ⟨mx, hmx⟩ : ∃ y, max bo (a' + s' + b') = y := ⟨_, rfl⟩
          have hmb : 0 ≤ mx ∧ mx ≤ 30000000 := by rw [← hmx]; omega
          rw [hmx] at HBS
          obtain ⟨hmb0, hmb1⟩ := hmb
          go_wp2_with fail
          go_roundw
          case rel => exact ⟨k + 1, by omega, by go_num, by rw [HBS.out], by rw [HBS.out]; exact hmb0, by rw [HBS.out]; exact hmb1, HXE.out, HBE.out⟩
          case measure => simp [intOf]; omega
        · have k1 : decide (0 < s') = false := decide_eq_false hs
          rw [if_neg hs] at HBS
          clear hs
          go_wp2_with fail
          go_roundw
          case rel => exact ⟨k + 1, by omega, by go_num, by rw [HBS.out], by rw [HBS.out]; exact hb0, by rw [HBS.out]; exact hb1, HXE.out, HBE.out⟩
          case measure => simp [intOf]; omega
      have hjt : j < ts.length := by rw [HLN.out]; exact hjl
      obtain ⟨bt, ot, rfl, hbt, hcells⟩ := HA.out (by rw [HLN.out]; omega)
      obtain ⟨au, cu, hat, hsl⟩ := hcells j hjt
      obtain ⟨c0, c1, c2⟩ := (hat.below HBE.out hbt).c3
      have HSL := Lib.hid hsl
      have HTJ := Lib.hid (HTK.out _ (List.getElem_mem hjt))
      have HST := Lib.hid (foldl_snoc (bStep p k) (-1, 0, -1) ts j hjt)
      rw [HZ.out] at HST
      have HBN2 := Lib.hid (bndP_step HOK.out (HTK.out _ (List.getElem_mem hjt)) hkp HBN.out)
      rw [← HST.out] at HBN2
      have hbtz : bt < wr.heap.size := Nat.lt_of_lt_of_le hbt HBE.out.size
      clear hat hsl hcells
      generalize ts[j] = t at *
      obtain ⟨path, gr, run⟩ := t
      dsimp only at c0 c1 c2 HSL HTJ
      have HSB := Lib.hid (show bStep p k (a', s', b') ⟨path, gr, run⟩ = match useF p run 0 path k with | none => (a', s', b') | some (f, l) => (if s' = 0 ∨ f < a' then f else a', s' + l, if s' = 0 ∨ tSum p path - f - tAt p k < b' then tSum p path - f - tAt p k else b') from rfl)
      rw [HSB.out] at HST
      clear HSB
      obtain ⟨pl, hpl⟩ : ∃ m, path.length = m := ⟨_, rfl⟩
      rw [hpl] at c0 HSL
      have HPLN := Lib.hid hpl
      clear hpl
      have hplb : pl ≤ 64 := by have h : path.length ≤ p.ms.length := HTJ.out.len; rw [HPLN.out, HN.out] at h; omega
      have HU := Lib.hid (fun (w1 : World) (hb : Below w.heap.size w w1) => uses127 w1 _ _ _ gr run p path (HPL.out w1 hb) (HSL.out.later hb) HOK.out HTJ.out.ins HTJ.out.nd HTJ.out.run)
      have HS := Lib.hid (fun (w1 : World) (hb : Below w.heap.size w w1) => seconds105 w1 _ _ _ p path (HPL.out w1 hb) (HSL.out.later hb) HTJ.out.ins HOK.out.times)
      rw [HPLN.out] at HU
      have HFB := Lib.hid (fun f l (h : useF p run 0 path k = some (f, l)) => useF_bd HOK.out.times HTJ.out.run HTJ.out.ins h)
      rw [HPLN.out] at HFB
      obtain ⟨ts0, ts1⟩ := tSum_bd HOK.out HTJ.out.ins
      rw [HPLN.out] at ts1
      rw [HTM.out] at HST
      generalize tSum p path = sm at *
      have HB1 := Lib.hid (HBE.out.alloc (by have := HBE.out.size; omega) (.cells #[.slice au pl cu, .string gr, .int .i64 run] 114))
      have HX1 := Lib.hid (HXE.out.alloc (.cells #[.slice au pl cu, .string gr, .int .i64 run] 114))
      have HY1 := Lib.hid (Box.new wr #[.slice au pl cu, .string gr, .int .i64 run] 114)
      obtain ⟨x0, x1, xf, xz⟩ := HX1.out.v2
      go_wp2_with fail
      refine (HU.out _ HB1.out).mono ?_
      rintro e w3 ⟨bm, rfl, hm, hbm, hb⟩
      have HB3 := Lib.hid (HB1.out.trans (hb.mono HB1.out.size))
      have HX3 := Lib.hid (HX1.out.later hb)
      have HY3 := Lib.hid (HY1.out.later hb)
      have HM3 := Lib.hid hm
      clear hb hm hbm x0 x1 xf xz c0 c1 c2
      have HWF := Lib.hid (wf64 k (by omega))
      obtain ⟨q, hq⟩ : ∃ q, useF p run 0 path k = q := ⟨_, rfl⟩
      have HQ := Lib.hid hq
      rw [hq] at HST
      clear hq
      cases q with
      | none =>
        dsimp only at HST
        go_wp2_with (at_lookup; refine wpList_look_F HM3.out (k : Int) HWF.out rfl _ _ rfl rfl rfl ?_; rw [HQ.out]; dsimp only [Option.getD, Option.isSome])
        go_roundw
        case rel => exact ⟨j + 1, by omega, by go_num, _, HST.out, by have := HBN2.out; rwa [HST.out] at this, rfl, rfl, rfl, HX3.out.alloc _, HB3.out.alloc (by have := HB3.out.size; omega) _⟩
        case measure => simp [intOf]; omega
      | some fl =>
        obtain ⟨f, l⟩ := fl
        dsimp only at HST
        obtain ⟨f0, f1, l0, l1⟩ := HFB.out f l HQ.out
        have HB4 := Lib.hid (HB3.out.alloc (by have := HB3.out.size; omega) (.cells #[.int .i64 f, .int .i64 l] 159))
        have HX4 := Lib.hid (HX3.out.alloc (.cells #[.int .i64 f, .int .i64 l] 159))
        have HY4 := Lib.hid (HY3.out.alloc (.cells #[.int .i64 f, .int .i64 l] 159))
        have HZ4 := Lib.hid (Box.new w3 #[.int .i64 f, .int .i64 l] 159)
        obtain ⟨x0, x1, xf, xz⟩ := HX4.out.v2
        obtain ⟨y0, yz⟩ : (w3.alloc (.cells #[.int .i64 f, .int .i64 l] 159)).cell? ⟨wr.heap.size, 0, none⟩ = some (.slice au pl cu) ∧ wr.heap.size < (w3.alloc (.cells #[.int .i64 f, .int .i64 l] 159)).heap.size := ⟨HY4.out.cell 0, HY4.out.lt⟩
        obtain ⟨q0, q1, qf, qz⟩ := HZ4.out.v2
        obtain ⟨m0, m1⟩ := (HCM.out.below HB4.out hbb1).c2
        dsimp only at m0 m1
        have hb1z := Nat.lt_of_lt_of_le hbb1 HB4.out.size
        have xz3 := HX3.out.lt
        have yz3 := HY3.out.lt
        have hb1z3 := Nat.lt_of_lt_of_le hbb1 HB3.out.size
        have HK := Lib.hid (fun (X : Later (w3.alloc (.cells #[.int .i64 f, .int .i64 l] 159))) => HS.out X.w (HB4.out.trans (X.h.mono HB4.out.size)))
        go_wp2_with (at_lookup; refine wpList_look_F HM3.out (k : Int) HWF.out rfl _ _ rfl rfl rfl ?_; rw [HQ.out]; dsimp only [Option.getD, Option.isSome])
        refine wp_region_later (by kernel_rfl) (by kernel_rfl) ?_
        repeat go_big_quiet_step ((go_at_call 105; exact Calls.later (HK.out _)))
        refine wpQuiet_nil ?_
        rintro w5 ⟨⟨_, hb⟩, rfl⟩
        have HB5 := Lib.hid (HB4.out.trans (hb.mono HB4.out.size))
        have HX5 := Lib.hid (HX4.out.later hb)
        have HZ5 := Lib.hid (HZ4.out.later hb)
        clear hb x0 x1 xf xz y0 yz q0 q1 qf qz m0 m1 hb1z HK xz3 yz3 hb1z3
        obtain ⟨q0, q1, qf, qz⟩ := HZ5.out.v2
        obtain ⟨rs, hrs⟩ : ∃ r, sm - f - tk = r := ⟨_, rfl⟩
        rw [hrs] at HST
        by_cases hs0 : s' = 0
        · have k1 : (s' == 0) = true := by simp [hs0]
          rw [if_pos (.inl hs0), if_pos (.inl hs0)] at HST
          clear hs0
          go_wp2_with fail
          go_roundw
          case rel => exact ⟨j + 1, by omega, by go_num, _, HST.out, by have := HBN2.out; rwa [HST.out] at this, rfl, by first | rfl | go_num, by first | rfl | rw [← hrs], HX5.out, HB5.out⟩
          case measure => simp [intOf]; omega
        have k1 : (s' == 0) = false := by simp [hs0]
        by_cases hfa : f < a'
        · have k2 : decide (f < a') = true := decide_eq_true hfa
          rw [if_pos (.inr hfa)] at HST
          clear hfa
          by_cases hrb : rs < b'
          · have k3 : decide (rs < b') = true := decide_eq_true hrb
            rw [if_pos (.inr hrb)] at HST
            clear hrb hs0
            go_wp2_with fail
            go_roundw
            case rel => exact ⟨j + 1, by omega, by go_num, _, HST.out, by have := HBN2.out; rwa [HST.out] at this, rfl, by first | rfl | go_num, by first | rfl | rw [← hrs], HX5.out, HB5.out⟩
            case measure => simp [intOf]; omega
          · have k3 : decide (rs < b') = false := decide_eq_false hrb
            rw [if_neg (fun h => h.elim hs0 hrb)] at HST
            clear hrb hs0
            go_wp2_with fail
            go_roundw
            case rel => exact ⟨j + 1, by omega, by go_num, _, HST.out, by have := HBN2.out; rwa [HST.out] at this, rfl, by first | rfl | go_num, by first | rfl | rw [← hrs], HX5.out, HB5.out⟩
            case measure => simp [intOf]; omega
        · have k2 : decide (f < a') = false := decide_eq_false hfa
          rw [if_neg (fun h => h.elim hs0 hfa)] at HST
          clear hfa
          by_cases hrb : rs < b'
          · have k3 : decide (rs < b') = true := decide_eq_true hrb
            rw [if_pos (.inr hrb)] at HST
            clear hrb hs0
            go_wp2_with fail
            go_roundw
            case rel => exact ⟨j + 1, by omega, by go_num, _, HST.out, by have := HBN2.out; rwa [HST.out] at this, rfl, by first | rfl | go_num, by first | rfl | rw [← hrs], HX5.out, HB5.out⟩
            case measure => simp [intOf]; omega
          · have k3 : decide (rs < b') = false := decide_eq_false hrb
            rw [if_neg (fun h => h.elim hs0 hrb)] at HST
            clear hrb hs0
            go_wp2_with fail
            go_roundw
            case rel => exact ⟨j + 1, by omega, by go_num, _, HST.out, by have := HBN2.out; rwa [HST.out] at this, rfl, by first | rfl | go_num, by first | rfl | rw [← hrs], HX5.out, HB5.out⟩
            case measure => simp [intOf]; omega
end Go.Proofs.YtahpdkkpnkhnhaaGreatDoor

/- Walks: the iterator over the machines that a machine can feed. -/
namespace Go.Proofs.YtahpdkkpnkhnhaaGreatDoor
open Go Go.Proofs Go.RowKit Go.Shelf
attribute [local go_sem] Oper.semAt_some

/-- The machines that machine m feeds, out of the first k arcs. -/
def nextTo (p : Pl) (m : Int) (k : Nat) : List Int := ((p.arcs.take k).filter (fun a => a.fr == m)).map Ar.to
def nextL (p : Pl) (m : Int) : List Int := (p.arcs.filter (fun a => a.fr == m)).map Ar.to
theorem nextTo_all (p : Pl) (m : Int) : nextTo p m p.arcs.length = nextL p m := by unfold nextTo nextL; rw [List.take_length]
theorem nextTo_succ (p : Pl) (m : Int) (k : Nat) (h : k < p.arcs.length) : nextTo p m (k + 1) = if p.arcs[k].fr = m then nextTo p m k ++ [p.arcs[k].to] else nextTo p m k := by
  unfold nextTo
  rw [take_snoc p.arcs k h, List.filter_append, List.map_append, List.filter_cons, List.filter_nil]
  by_cases e : p.arcs[k].fr = m
  · rw [if_pos e, if_pos (by simpa using e)]; rfl
  · rw [if_neg e, if_neg (by simpa using e)]; simp
theorem nextTo_len (p : Pl) (m : Int) (k : Nat) : (nextTo p m k).length ≤ k := by
  unfold nextTo
  rw [List.length_map]
  exact Nat.le_trans (List.length_filter_le _ _) (List.length_take_le _ _)
theorem nextTo_pre (p : Pl) (m : Int) {k n : Nat} (h : k ≤ n) : nextTo p m k <+: nextTo p m n := by
  unfold nextTo
  have : p.arcs.take k <+: p.arcs.take n := List.take_prefix_take_left h
  exact (this.filter _).map _
theorem nextTo_mem {p : Pl} {m x : Int} {k : Nat} (h : x ∈ nextTo p m k) : (⟨m, x⟩ : Ar) ∈ p.arcs := by
  obtain ⟨a, ha, rfl⟩ := List.mem_map.1 h
  obtain ⟨h1, h2⟩ := List.mem_filter.1 ha
  obtain ⟨fr, to⟩ := a
  have : fr = m := by simpa using h2
  subst this
  exact List.mem_of_mem_take h1
def encN (x : Int) : Array Value := #[.int .i64 x]

set_option maxHeartbeats 400000 in
theorem next83 (a1 : Option Addr) (n c1 : Nat) (a2 : Option Addr) (na c2 : Nat) (m : Int) (w : World) :
    Calls Tryz.prog 83 #[.agg #[.slice a1 n c1, .slice a2 na c2], .int .i64 m] w fun e w' =>
      e = .returned (.func (.func 139) #[] #[.pointer (some ⟨w.heap.size, 0, none⟩), .pointer (some ⟨w.heap.size + 1, 0, none⟩)]) ∧
      (w.alloc (.cells #[.slice a1 n c1, .slice a2 na c2] 25)).alloc (.cells #[.int .i64 m] 3) = w' := by
  go_enter Tryz.func83, Tryz.ntmps83
  go_wp2
  go_ret
  exact ⟨rfl, rfl⟩

/-- What the iterator reads: its two captured variables, and the plant's arcs. -/
structure NxR (w : World) (q B : Nat) (v1 v2 : Value) (p : Pl) (m : Int) : Prop where
  b1 : Box w q 25 [v1, v2]
  b2 : Box w (q + 1) 3 [.int .i64 m]
  arcs : Sl Ar.enc 2 w B v2 p.arcs
  lt : B ≤ w.heap.size
theorem NxR.later {w w' : World} {q B : Nat} {v1 v2 : Value} {p : Pl} {m : Int} (h : NxR w q B v1 v2 p m) (hb : Below w.heap.size w w') : NxR w' q B v1 v2 p m :=
  ⟨h.b1.later hb, h.b2.later hb, h.arcs.below (hb.mono h.lt), Nat.le_trans h.lt hb.size⟩
/-- What a round that goes on keeps. -/
structure KpN (q B : Nat) (v1 v2 : Value) (p : Pl) (m : Int) (w w' : World) : Prop where
  it : NxR w q B v1 v2 p m → NxR w' q B v1 v2 p m
  size : w.heap.size ≤ w'.heap.size
theorem KpN.t {q B : Nat} {v1 v2 : Value} {p : Pl} {m : Int} {x y z : World} (h : KpN q B v1 v2 p m x y) (k : KpN q B v1 v2 p m y z) : KpN q B v1 v2 p m x z :=
  ⟨fun i => k.it (h.it i), Nat.le_trans h.size k.size⟩

set_option maxRecDepth 100000 in
set_option maxHeartbeats 1000000 in
theorem next139 (n : Nat) (hn : 2 ≤ n) (q B : Nat) (a1 : Option Addr) (nm c1 : Nat) (v2 : Value) (p : Pl) (m : Int) (hl : p.arcs.length ≤ 256) (lp : Nat) (J Jx : List Int → World → Prop) (W : World) (hit : NxR W q B (.slice a1 nm c1) v2 p m)
    (hJ : AbidesFrom W.heap.size J)
    (hY : ∀ pre x W1, x ∈ nextTo p m p.arcs.length → J pre W1 → pre.length < 1000 → YieldAt Fence.wide (n - 1) Tryz.prog lp (encN x) W1 fun e W' =>
      (e = .returned (.bool true) ∧ J (pre ++ [x]) W' ∧ KpN q B (.slice a1 nm c1) v2 p m W1 W') ∨ (e = .returned (.bool false) ∧ Jx (pre ++ [x]) W'))
    (h0 : J [] W) :
    CallsIn Fence.wide n Tryz.prog 139 (#[.func (.yield lp) #[] #[]] ++ #[.pointer (some ⟨q, 0, none⟩), .pointer (some ⟨q + 1, 0, none⟩)]) W fun e W' => (∃ v, e = .returned v) ∧
      ((∃ xs, xs = nextTo p m p.arcs.length ∧ J xs W') ∨ (∃ pre, pre <+: nextTo p m p.arcs.length ∧ Jx pre W')) := by
  have h1 : 1 ≤ n := by omega
  refine callsIn_of_wp Tryz.func139 rfl trivial ?_ rfl
  simp only [Tryz.ntmps139, List.size_toArray, List.length_cons, List.length_nil, Nat.reduceAdd, Nat.reduceSub, Array.replicate_succ, Array.replicate_zero, List.push_toArray, List.append_toArray, List.nil_append, List.cons_append]
  have d1 := hit.b1.cell 1
  have z1 := hit.b1.lt
  simp only [List.getElem?_cons_zero, List.getElem?_cons_succ] at d1
  obtain ⟨a2, c2, rfl, ⟨hl1, hl2⟩, hA⟩ := id hit.arcs
  have HIT := Lib.hid hit
  have HA := Lib.hid hA
  clear hit hA
  obtain ⟨na, hna⟩ : ∃ n, p.arcs.length = n := ⟨_, rfl⟩
  rw [hna] at d1 HIT hY hl hl1 hl2 ⊢
  have HNA := Lib.hid hna
  clear hna
  gi_wp2
  gi_loopw [9] (fun j wr => ∃ k : Nat, k ≤ na ∧ j = .int .i64 k ∧ J (nextTo p m k) wr ∧ NxR wr q B (.slice a1 nm c1) (.slice a2 na c2) p m) (fun j _ => na - (intOf j).toNat)
  case atStart => exact ⟨0, by omega, rfl, h0, HIT.out⟩
  case round =>
    obtain ⟨k, hk, rfl, hJk, hit⟩ := hrel
    by_cases hlt : k < na
    rotate_left
    · obtain rfl : na = k := by omega
      gi_wp2
      go_end0
      exact ⟨⟨_, rfl⟩, .inl ⟨_, rfl, hJk⟩⟩
    have hkl : k < p.arcs.length := by rw [HNA.out]; exact hlt
    obtain ⟨a2', c2', e2, _, hA2⟩ := id hit.arcs
    injection e2 with e21 e22 e23
    subst e21 e23
    clear e22
    obtain ⟨b, off, rfl, hbb, hcells⟩ := hA2 (by omega)
    obtain ⟨e0, e1⟩ := (hcells k hkl).c2
    have hbz : b < wr.heap.size := Nat.lt_of_lt_of_le hbb hit.lt
    have y2 := hit.b2.cell 0
    have y5 := hit.b2.lt
    simp only [List.getElem?_cons_zero] at y2
    have HS := Lib.hid (nextTo_succ p m k hkl)
    have HPL := Lib.hid (nextTo_len p m k)
    have HPX := Lib.hid (nextTo_pre p m (show k + 1 ≤ na by omega))
    have HJ := Lib.hid hJk
    have HY := Lib.hid (fun x wr' hx h => hY (nextTo p m k) x wr' hx h (by have := HPL.out; omega))
    have HIT2 := Lib.hid hit
    clear hit hJk hcells hA2
    generalize p.arcs[k] = ar at *
    clear hkl
    obtain ⟨fr, to⟩ := ar
    dsimp only at e0 e1 HS
    have hB := Lib.hid ((Below.refl wr.heap.size wr).alloc (Nat.le_refl _) (.cells #[.int .i64 fr, .int .i64 to] 123))
    have HJ3 : Hid (J (nextTo p m k) (wr.alloc (.cells #[.int .i64 fr, .int .i64 to] 123))) := Lib.hid (hJ _ _ _ none HJ.out ⟨hB.out.os, hB.out.tape, hB.out.output, hB.out.size, fun k hk _ => hB.out.block k hk⟩ (fun r e => by cases e))
    by_cases hf : fr = m
    · have k1 : (fr == m) = true := beq_iff_eq.2 hf
      rw [if_pos hf] at HS
      have HF := Lib.hid hf
      clear hf
      obtain ⟨fn, tmps, assign, body, hy, hRR⟩ := HY.out to _ (HPX.out.subset (by rw [HS.out]; simp)) HJ3.out
      dsimp only [encN] at hy
      gi_wp2
      refine hRR.mono ?_
      rintro e W3 (⟨rfl, hJ4, hk4⟩ | ⟨rfl, hJx4⟩)
      · gi_wp2
        go_roundw
        case rel => exact ⟨k + 1, by omega, by go_num, by rw [HS.out]; exact hJ4, hk4.it (HIT2.out.later hB.out)⟩
        case measure => simp [intOf]; omega
      · gi_wp2
        refine bodyPost_ret (results_none rfl _ _ _) rfl ?_
        refine ⟨⟨_, rfl⟩, .inr ⟨_, ?_, hJx4⟩⟩
        have h := HPX.out
        rw [HS.out] at h
        exact h
    · have k1 : (fr == m) = false := beq_eq_false_iff_ne.2 hf
      rw [if_neg hf] at HS
      have HF := Lib.hid hf
      clear hf
      gi_wp2
      refine ⟨fun _ h => (by cases h), ?_⟩
      gi_wp2
      go_roundw
      case rel => exact ⟨k + 1, by omega, by go_num, by rw [HS.out]; exact HJ3.out, HIT2.out.later hB.out⟩
      case measure => simp [intOf]; omega

/-- A machine that comes. -/
abbrev Nxt (p : Pl) (m : Int) := { x : Int // (⟨m, x⟩ : Ar) ∈ p.arcs }
theorem next_stops (n : Nat) (hn : 2 ≤ n) (q B : Nat) (a1 : Option Addr) (nm c1 : Nat) (v2 : Value) (p : Pl) (m : Int) (hl : p.arcs.length ≤ 256) (w : World) (hit : NxR w q B (.slice a1 nm c1) v2 p m) :
    SeqStopsK Fence.wide n Tryz.prog 139 #[.pointer (some ⟨q, 0, none⟩), .pointer (some ⟨q + 1, 0, none⟩)] (fun x : Nxt p m => encN x.1) (KpN q B (.slice a1 nm c1) v2 p m)
      (fun ys => ys.map Subtype.val = nextL p m) (fun _ => True) 1000 w := fun lp J Jx W hW hJ hJx hY h0 => by
  refine (next139 n hn q B a1 nm c1 v2 p m hl lp (fun xs W => ∃ pre : List (Nxt p m), pre.map Subtype.val = xs ∧ J pre W) (fun xs W => ∃ pre : List (Nxt p m), pre.map Subtype.val = xs ∧ Jx pre W) W (hit.later hW)
    (fun s A B' row ⟨pre, h1, h2⟩ hg hr => ⟨pre, h1, hJ _ _ _ _ h2 hg hr⟩) ?_ ⟨[], rfl, h0⟩).mono ?_
  · rintro _ x W1 hx ⟨pre, rfl, hp⟩ hlen
    obtain ⟨fn, tmps, assign, body, hy, hR⟩ := hY pre ⟨x, nextTo_mem hx⟩ W1 hp (by simpa using hlen)
    refine ⟨fn, tmps, assign, body, hy, hR.mono ?_⟩
    rintro e W' (⟨rfl, h1, h2⟩ | ⟨rfl, h1⟩)
    · exact .inl ⟨rfl, ⟨_, by simp, h1⟩, h2⟩
    · exact .inr ⟨rfl, _, by simp, h1⟩
  · rintro e W' ⟨hv, (⟨xs, hS, pre, hp, hj⟩ | ⟨_, _, pre, _, hj⟩)⟩
    · exact ⟨hv, .inl ⟨pre, (hp.trans hS).trans (nextTo_all p m), hj⟩⟩
    · exact ⟨hv, .inr ⟨pre, trivial, hj⟩⟩
end Go.Proofs.YtahpdkkpnkhnhaaGreatDoor

/- A loop with a measure that stands in no slot; the marks that ranges over a function leave behind them; pieces of code. -/
namespace Go.Proofs.YtahpdkkpnkhnhaaGreatDoor
open Go Go.Proofs Go.RowKit Go.Shelf

def codeL : Code → Code
  | .seq a _ => a | .block _ b => b | .loop b => b | .scope b => b | .cond _ a _ => a | .rangeFunc _ _ a _ => a | c => c
def codeR : Code → Code
  | .seq _ b => b | .cond _ _ b => b | .rangeFunc _ _ _ b => b | c => c
theorem KeepsFrom.of_below {W W' : World} {B : Nat} (h : Below W.heap.size W W') : KeepsFrom B W W' := ⟨h.size, fun k _ _ hk _ => (h.block k (Array.getElem?_eq_some_iff.1 hk).1).trans hk⟩
theorem KeepsFrom.trans' {A B' C : World} {B : Nat} (h : KeepsFrom B A B') (k : KeepsFrom B B' C) : KeepsFrom B A C := ⟨Nat.le_trans h.size k.size, fun i o hi ho hc => k.same i o hi (h.same i o hi ho hc) hc⟩
section
variable {P : Program} {Q : Exit → Act → World → Prop} {a : Act} {w : World}
theorem least_exists (p : Nat → Prop) (h : ∃ n, p n) : ∃ n, p n ∧ ∀ k, p k → n ≤ k := by
  obtain ⟨n, hn⟩ := h
  induction n using Nat.strongRecOn with
  | _ n ih =>
    by_cases h : ∃ k, k < n ∧ p k
    · obtain ⟨k, hk, hp⟩ := h; exact ih k hk hp
    · exact ⟨n, hn, fun k hk => Nat.le_of_not_lt fun hlt => h ⟨k, hlt, hk⟩⟩
open Classical in
/-- The least number with a property. -/
noncomputable def leastN (p : Nat → Prop) : Nat := if h : ∃ n, p n then Classical.choose (least_exists p h) else 0
theorem leastN_spec {p : Nat → Prop} (h : ∃ n, p n) : p (leastN p) ∧ ∀ k, p k → leastN p ≤ k := by
  unfold leastN; rw [dif_pos h]; exact Classical.choose_spec (least_exists p h)
theorem leastN_lt {p q : Nat → Prop} {m : Nat} (h : p m) (hm : m < leastN q) : leastN p < leastN q := Nat.lt_of_le_of_lt ((leastN_spec ⟨m, h⟩).2 m h) hm

theorem wp_loop_g {c : Code} (I : Nat → Act → World → Prop) (m : Nat) (h₀ : I m a w)
    (round : ∀ m a w, I m a w → c.wp P (Exit.then (fun a' w' => ∃ m', m' < m ∧ I m' a' w') Q) a w) : (Code.loop c).wp P Q a w := by
  refine wp_loop (fun a w => ∃ m, I m a w) (fun a w => leastN fun m => I m a w) ⟨m, h₀⟩ fun a w h => ?_
  obtain ⟨h1, _⟩ := leastN_spec h
  have := round _ a w h1
  refine (wpIn_wide (n := 0)).1 (wpIn_mono ((wpIn_wide (n := 0)).2 this) fun e a' w' hq => ?_)
  cases e with
  | normal =>
    obtain ⟨m', hm, hi⟩ := hq
    exact ⟨⟨m', hi⟩, leastN_lt (p := fun m => I m a' w') hi hm⟩
  | _ => exact hq
end

/-- A list of a known length, written out. -/
theorem list_range (L : List Value) (n : Nat) (h : L.length = n) : L = (List.range n).map fun i => L.getD i undef := by
  apply List.ext_getElem?
  intro i
  by_cases hi : i < L.length
  · simp [← h, hi]
  · rw [List.getElem?_eq_none (by omega), List.getElem?_eq_none (by simp; omega)]

/-- What is no cells may turn: cells, rows, boxes stay. -/
def NoCells (W : World) (row : Option Nat) : Prop := ∀ r, row = some r → ∃ o : Obj, W.heap[r]? = some o ∧ o.isCells = false
theorem NoCells.box {W : World} {row : Option Nat} (h : NoCells W row) {b : Nat} {e : TypeId} {vs : List Value} (hb : Box W b e vs) : some b ≠ row := fun e' => by
  obtain ⟨o, ho, hc⟩ := h b e'.symm
  rw [show W.heap[b]? = _ from hb] at ho; cases ho; cases hc
theorem NoCells.own {W : World} {row : Option Nat} (h : NoCells W row) {α : Type} {f : α → List Value} {sz : Nat} {e : TypeId} {base : Nat} {v : Value} {l : List α} (ho : Own f sz e W base v l) : v.ownBlock = none ∨ v.ownBlock ≠ row := by
  rcases ho.2 with ⟨rfl, _⟩ | ⟨g, cap, cur, rfl, _, hg, _⟩
  · exact .inl rfl
  · refine .inr fun e' => ?_
    obtain ⟨o, hx, hc⟩ := h g (by rw [← e']; rfl)
    rw [hg] at hx; cases hx; cases hc
theorem NoCells.cell {W : World} {row : Option Nat} (h : NoCells W row) {a : Addr} {v : Value} (hc : W.cell? a = some v) : some a.block ≠ row := fun e' => by
  obtain ⟨o, ho, hc'⟩ := h a.block e'.symm
  obtain ⟨o', ho', hc''⟩ := cells_of_cell hc
  rw [ho] at ho'; cases ho'; rw [hc'] at hc''; cases hc''

/-- The marks that are left to be taken up: their blocks are there, and hold no calls. -/
def marksOf (Ds : List Nat) : List Deferred := Ds.map fun D => { target := .collected D, args := #[] }
def MarksIn (W : World) (Ds : List Nat) : Prop := ∀ D ∈ Ds, W.heap[D]? = some (.deferred (some []))
theorem MarksIn.keeps {W W' : World} {Ds : List Nat} (h : MarksIn W Ds) (hk : KeepsOthers W W') : MarksIn W' Ds := fun D hD => hk.same D _ (h D hD) rfl
theorem MarksIn.later {W W' : World} {Ds : List Nat} (h : MarksIn W Ds) (hb : Below W.heap.size W W') : MarksIn W' Ds := fun D hD => (hb.block D (Array.getElem?_eq_some_iff.1 (h D hD)).1).trans (h D hD)

theorem putObj_kept {S : Nat → Prop} {w W : World} {D : Nat} {o : Obj} (h : Kept S w W) (hD : w.heap.size ≤ D) : Kept S w (W.putObj D o) :=
  h.grown (grownBy_putObj' W D o) (fun k e => by cases e; exact .inr hD)

/-- The function returns: its marks are taken up one by one. -/
theorem leaves_marks {w0s : Nat} {F : Fence} {n : Nat} {P : Program} {fn : Func} {tmps : Array Value} {R : Ending → World → Prop} {v : Value} (hres : ∀ W : World, (results fn tmps).run P W = .ok v W) (G : World → Prop)
    (hG : ∀ (W : World) (D : Nat) (o : Obj), G W → W.heap[D]? = some o → o.isCells = false → w0s ≤ D → G (W.putObj D (.deferred none))) (hR : ∀ W, G W → R (.returned v) W) :
    ∀ (Ds : List Nat) (W : World), Ds.Nodup → MarksIn W Ds → (∀ D ∈ Ds, w0s ≤ D) → G W → LeavesInM F n P fn tmps R (marksOf Ds) .returning W
  | [], W, _, _, _, hg => ⟨v, hres W, hR W hg⟩
  | D :: Ds, W, hn, hm, hw, hg => by
    have hD := hm D (by simp)
    obtain ⟨h1, h2⟩ := List.nodup_cons.1 hn
    refine ⟨by simp, .inl ⟨D, _, rfl, run_takeDeferred hD, ?_⟩⟩
    refine leaves_marks hres G hG hR Ds _ h2 (fun E hE => ?_) (fun E hE => hw E (by simp [hE])) (hG W D _ hg hD rfl (hw D (by simp)))
    rw [World.putObj_heap_other (by intro e; subst e; exact h1 hE)]
    exact hm E (by simp [hE])
end Go.Proofs.YtahpdkkpnkhnhaaGreatDoor
