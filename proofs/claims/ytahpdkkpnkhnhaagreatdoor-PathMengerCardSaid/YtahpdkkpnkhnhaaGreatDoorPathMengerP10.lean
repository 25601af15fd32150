/- Lemmas on the way to the law PathMenger (part 10): Wc Nb Nc Nd -/
import Derived.Test.YtahpdkkpnkhnhaaGreatDoorPathMengerP07
import Derived.Test.YtahpdkkpnkhnhaaGreatDoorPathMengerP02
import Derived.Test.YtahpdkkpnkhnhaaGreatDoorPathMengerP03
set_option linter.unusedVariables false
set_option linter.unusedSimpArgs false

/- Walks: lists of whatever length: unknown, twice, the ends. -/
namespace Go.Proofs.YtahpdkkpnkhnhaaGreatDoor
open Go Go.Proofs Go.RowKit Go.Shelf
theorem nodup_inn {n : Nat} {l : List Int} (hnd : l.Nodup) (hin : ∀ x ∈ l, inN n x = true) : l.length ≤ n := by
  have h1 : (l.map Int.toNat).Nodup := by
    rw [List.nodup_iff_pairwise_ne, List.pairwise_map]
    refine List.Pairwise.imp_of_mem ?_ (List.nodup_iff_pairwise_ne.1 hnd)
    intro a b ha hb hab e
    obtain ⟨k, e1, h1⟩ := inN_nat (hin a ha)
    obtain ⟨m, e2, h2⟩ := inN_nat (hin b hb)
    exact hab (by omega)
  have h2 : (l.map Int.toNat).length ≤ (List.range n).length := h1.length_le_of_subset fun y hy => by
    obtain ⟨z, hz, rfl⟩ := List.mem_map.1 hy
    obtain ⟨k, e1, h1⟩ := inN_nat (hin z hz)
    exact List.mem_range.2 (by omega)
  simpa using h2
theorem SlL.take {α : Type} {f : α → List Value} {sz : Nat} {w : World} {B : Nat} {a : Option Addr} {n c : Nat} {l : List α} (h : SlL f sz w B (.slice a n c) l) (k : Nat) (hk : k ≤ l.length) (hk2 : k ≤ 1000000000) : Sl f sz w B (.slice a k c) (l.take k) := by
  obtain ⟨a', c', e, hlen, hA⟩ := h
  injection e with e1 e2 e3
  subst e1 e3
  have hl : (l.take k).length = k := by simp; omega
  refine ⟨a, c, by rw [hl], by rw [hl]; omega, fun h0 => ?_⟩
  obtain ⟨b, off, e, hb, hc⟩ := hA (by omega)
  refine ⟨b, off, e, hb, fun i hi => ?_⟩
  rw [hl] at hi
  have := hc i (by omega)
  rwa [List.getElem_take]
set_option maxRecDepth 100000 in
set_option maxHeartbeats 1000000 in
theorem unknown88L (a1 : Option Addr) (n c1 : Nat) (v2 u : Value) (l : List Int) (w : World) (hu : SlL encI 1 w w.heap.size u l) : Calls Tryz.prog 88 #[.agg #[.slice a1 n c1, v2], u] w (Ret (.int .i64 (unkE n l)) w) := by
  obtain ⟨a, c, rfl, hlen, hA⟩ := hu
  have HA := Lib.hid hA
  clear hA
  obtain ⟨R, hR⟩ : ∃ R, unkE n l = R := ⟨_, rfl⟩
  rw [hR]
  have HR0 : Hid ((if (l.drop 0).any (fun x => !inN n x) then 10 else 0) = R) := Lib.hid hR
  clear hR
  have HX := Lib.hid (Box.new w #[.slice a1 n c1, v2] 25)
  have HB := Lib.hid ((Below.refl w.heap.size w).alloc (Nat.le_refl _) (.cells #[.slice a1 n c1, v2] 25))
  go_enter Tryz.func88, Tryz.ntmps88
  go_wp2_with fail
  go_loopw [5] (fun i wr => ∃ k : Nat, k ≤ l.length ∧ i = .int .i64 k ∧ Below w.heap.size w wr ∧ Box wr w.heap.size 25 [.slice a1 n c1, v2] ∧ (if (l.drop k).any (fun x => !inN n x) then (10 : Int) else 0) = R) (fun i _ => l.length - (intOf i).toNat)
  case atStart => exact ⟨0, by omega, rfl, HB.out, HX.out, HR0.out⟩
  case round =>
    clear HR0 HX HB
    obtain ⟨k, hk, rfl, hbe, hx, hrel⟩ := hrel
    obtain ⟨x0, x1, xf, xz⟩ := hx.v2
    have HN := Lib.hid hrel
    clear hrel
    by_cases hlt : k < l.length
    · obtain ⟨b, off, rfl, hbb, hcells⟩ := HA.out (by omega)
      have hd := Lib.hid (show (l.drop k).any (fun x => !inN n x) = (!inN n l[k] || (l.drop (k + 1)).any (fun x => !inN n x)) by rw [List.drop_eq_getElem_cons hlt]; rfl)
      have c0 := ((hcells k hlt).below hbe hbb).c1
      rw [Nat.mul_one] at c0
      have hbz : b < wr.heap.size := by have := hbe.size; omega
      clear hcells HA
      generalize l[k] = y at *
      have HBE := Lib.hid hbe
      have HXE := Lib.hid hx
      clear hbe hx
      by_cases h0 : y < 0
      · have hi : inN n y = false := by unfold inN; rw [decide_eq_false (by omega)]; rfl
        have k0 : decide (y < 0) = true := decide_eq_true h0
        have HV := Lib.hid (show R = 10 by rw [← HN.out, hd.out, hi]; rfl)
        clear hi
        go_wp2_with fail
        go_quiet (fail)
        go_wp2_with fail
        go_ret
        exact ⟨by rw [HV.out]; rfl, below_drewN HBE.out _⟩
      · have k0 : decide (y < 0) = false := decide_eq_false h0
        by_cases h1 : (n : Int) ≤ y
        · have hi : inN n y = false := by unfold inN; rw [decide_eq_false (show ¬ y < (n : Int) by omega), Bool.and_false]
          have k1 : decide ((n : Int) ≤ y) = true := decide_eq_true h1
          have HV := Lib.hid (show R = 10 by rw [← HN.out, hd.out, hi]; rfl)
          clear hi
          go_wp2_with fail
          go_quiet (fail)
          go_wp2_with fail
          go_ret
          exact ⟨by rw [HV.out]; rfl, below_drewN HBE.out _⟩
        · have hi : inN n y = true := by unfold inN; rw [decide_eq_true (show 0 ≤ y by omega), decide_eq_true (show y < (n : Int) by omega)]; rfl
          have k1 : decide ((n : Int) ≤ y) = false := decide_eq_false h1
          have HV := Lib.hid (show (if (l.drop (k + 1)).any (fun x => !inN n x) then (10 : Int) else 0) = R by have := HN.out; rw [hd.out, hi] at this; exact this)
          clear hi
          go_wp2_with fail
          go_quiet (fail)
          go_wp2_with fail
          go_roundw
          case rel => exact ⟨k + 1, by omega, by go_num, below_drewN HBE.out _, HXE.out.later (below_drewN (Below.refl _ _) _), HV.out⟩
          case measure => simp [intOf]; omega
    · obtain rfl : l.length = k := by omega
      have HV := Lib.hid (show R = 0 by rw [← HN.out, List.drop_length]; rfl)
      go_wp2_with fail
      go_ret
      exact ⟨by rw [HV.out]; rfl, hbe⟩
set_option maxRecDepth 100000 in
set_option maxHeartbeats 1000000 in
theorem twice126L (n : Nat) (hn : n ≤ 1000) (v : Value) (l : List Int) (w : World) (hv : SlL encI 1 w w.heap.size v l) (hin : ∀ x ∈ l, inN n x = true) : Calls Tryz.prog 126 #[v] w (Ret (.bool (dupB l)) w) := by
  have HV := Lib.hid hv
  have HIN := Lib.hid hin
  clear hin
  obtain ⟨a, c, rfl, hlen, hA⟩ := hv
  obtain ⟨R, hR⟩ : ∃ R, dupB l = R := ⟨_, rfl⟩
  rw [hR]
  have HRR : Hid (R = false ↔ l.Nodup) := Lib.hid (by rw [← hR]; exact nodup_dup l)
  have HA := Lib.hid hA
  clear hA
  clear hR
  have hlen1 := hlen.1
  have hlen2 := hlen.2
  clear hlen
  go_enter Tryz.func126, Tryz.ntmps126
  go_wp2_with fail
  go_loopw [3] (fun i wr => ∃ k : Nat, k ≤ l.length ∧ i = .int .i64 k ∧ (l.take k).Nodup ∧ Below w.heap.size w wr) (fun i _ => l.length - (intOf i).toNat)
  case atStart => exact ⟨0, by omega, rfl, by simp, Below.refl _ _⟩
  case round =>
    obtain ⟨k, hk, rfl, hnd, hbe⟩ := hrel
    have HN := Lib.hid hnd
    have HBE := Lib.hid hbe
    clear hnd
    by_cases hlt : k < l.length
    · obtain ⟨b, off, rfl, hbb, hcells⟩ := HA.out (by omega)
      have hkn : k ≤ 1000 := by
        have h1 := nodup_inn HN.out (fun x hx => HIN.out x (List.mem_of_mem_take hx))
        rw [List.length_take] at h1
        omega
      have HT := Lib.hid (HV.out.take k hk (by omega))
      have HNT := Lib.hid (nodup_take l k hlt)
      have HLL : Hid (¬ (l.take (k + 1)).Nodup → R = true) := Lib.hid (fun h => by
        cases hr : R with
        | true => rfl
        | false => exact absurd ((HRR.out.1 hr).sublist (List.take_sublist _ _)) h)
      have c0 := ((hcells k hlt).below hbe hbb).c1
      rw [Nat.mul_one] at c0
      have hbz : b < wr.heap.size := by have := hbe.size; omega
      have hkc : (k : Int) ≤ c := by omega
      clear hcells HA hbe
      generalize l[k] = x at *
      go_wp2_with fail
      refine wp_region_head_drew 7 (by kernel_rfl) (by kernel_rfl) ?_
      simp only [List.take_succ_cons, List.take_zero, List.drop_succ_cons, List.drop_zero]
      repeat go_big_quiet_step (fail)
      refine wpQuiet_nil ?_
      rintro _ ⟨nq, rfl⟩
      go_wp2_with fail
      refine (in24 _ (l.take k) x _ (HT.out.later (below_drewN HBE.out nq))).mono ?_
      rintro e w2 ⟨rfl, rfl⟩
      obtain ⟨q, hq⟩ : ∃ q, (l.take k).contains x = q := ⟨_, rfl⟩
      rw [hq] at HNT ⊢
      cases q with
      | true =>
        have HR1 := Lib.hid (HLL.out (fun h => by have := (HNT.out.1 h).2; cases this))
        go_wp2_with fail
        go_ret
        exact ⟨by rw [HR1.out]; rfl, below_drewN HBE.out nq⟩
      | false =>
        have HN2 := Lib.hid (HNT.out.2 ⟨HN.out, rfl⟩)
        go_wp2_with fail
        go_roundw
        case rel => exact ⟨k + 1, by omega, by go_num, HN2.out, below_drewN HBE.out nq⟩
        case measure => simp [intOf]; omega
    · obtain rfl : l.length = k := by omega
      have HR1 := Lib.hid (show R = false from HRR.out.2 (by have := HN.out; rwa [List.take_length] at this))
      go_wp2_with fail
      go_ret
      exact ⟨by rw [HR1.out]; rfl, hbe⟩
set_option maxRecDepth 100000 in
set_option maxHeartbeats 1000000 in
theorem ends123L (w : World) (v1 v2 u : Value) (b : Bool) (p : Pl) (l : List Int) (hv : PlR w w.heap.size v1 v2 p) (hn64 : p.ms.length ≤ 1000) (hu : SlL encI 1 w w.heap.size u l) :
    Calls Tryz.prog 123 #[.agg #[v1, v2], u, .bool b] w (Ret (.int .i64 (endE p (endF b) l)) w) := by
  have HT := Lib.hid (fun (w1 : World) (hb : Below w.heap.size w w1) (hin : ∀ x ∈ l, inN p.ms.length x = true) => twice126L p.ms.length hn64 u l w1 (hu.later hb) hin)
  clear hn64
  have HV := Lib.hid hv
  have HU0 := Lib.hid hu
  obtain ⟨⟨a1, n1, rfl, hl1, hA1⟩, ⟨a2, n2, rfl, hl2, hA2⟩⟩ := hv
  have HUK := Lib.hid (fun (w1 : World) (hb : Below w.heap.size w w1) => unknown88L a1 p.ms.length n1 (.slice a2 p.arcs.length n2) u l w1 (HU0.out.later hb))
  obtain ⟨a, c, rfl, hlen, hA⟩ := hu
  have HA1 := Lib.hid hA1
  have HA := Lib.hid hA
  clear hA1 hA2 hA hl2 HV HU0
  obtain ⟨hl, hlc⟩ := hlen
  have HB := Lib.hid ((Below.refl w.heap.size w).alloc (Nat.le_refl _) (.cells #[.slice a1 p.ms.length n1, .slice a2 p.arcs.length n2] 25))
  have HX := Lib.hid (Box.new w #[.slice a1 p.ms.length n1, .slice a2 p.arcs.length n2] 25)
  obtain ⟨R, hR⟩ : ∃ R, endE p (endF b) l = R := ⟨_, rfl⟩
  rw [hR]
  unfold endE at hR
  obtain ⟨dR, hdR⟩ : ∃ d : Int, (if dupB l then (9 : Int) else 0) = d := ⟨_, rfl⟩
  rw [hdR] at hR
  have HDR := Lib.hid hdR
  obtain ⟨du, hdu⟩ : ∃ d, dupB l = d := ⟨_, rfl⟩
  rw [hdu] at HT HDR
  clear hdR hdu
  obtain ⟨n, hn⟩ : ∃ n, p.ms.length = n := ⟨_, rfl⟩
  obtain ⟨m, hm⟩ : ∃ m, p.arcs.length = m := ⟨_, rfl⟩
  obtain ⟨ln, hll⟩ : ∃ m, l.length = m := ⟨_, rfl⟩
  rw [hn] at HB HX HUK HT hl1 hR ⊢
  rw [hm] at HB HX HUK ⊢
  rw [hll] at hl hlc HUK HT ⊢
  have HN := Lib.hid hn
  have HLN := Lib.hid hll
  clear hn hm hll
  unfold unkE at HUK
  obtain ⟨qu, hqu⟩ : ∃ b, l.any (fun x => !inN n x) = b := ⟨_, rfl⟩
  rw [hqu] at HUK hR
  have HQU := Lib.hid hqu
  clear hqu
  obtain ⟨h11, h12⟩ := hl1
  cases qu with
  | true =>
    have HV := Lib.hid (show R = 10 by rw [← hR]; rfl)
    clear hR
    go_enter Tryz.func123, Tryz.ntmps123
    go_wp2_with fail
    refine (HUK.out _ HB.out).mono ?_
    rintro e w2 ⟨rfl, hb⟩
    have HB2 := Lib.hid (HB.out.trans (hb.mono HB.out.size))
    go_wp2_with fail
    go_ret
    exact ⟨by rw [HV.out]; rfl, HB2.out⟩
  | false =>
    have HIN := Lib.hid (show ∀ y ∈ l, inN n y = true from fun y hy => by
      have := List.any_eq_false.1 HQU.out y hy
      simpa using this)
    have HR0 := Lib.hid (show (if l.any (fun x => !(endF b) (kdA p x)) = true then (20 : Int) else dR) = R from by rw [← hR]; rfl)
    clear hR HQU
    go_enter Tryz.func123, Tryz.ntmps123
    go_wp2_with fail
    refine (HUK.out _ HB.out).mono ?_
    rintro e w2 ⟨rfl, hb⟩
    have HB2 := Lib.hid (HB.out.trans (hb.mono HB.out.size))
    have HX2 := Lib.hid (HX.out.later hb)
    clear hb HB HX
    go_wp2_with fail
    go_loopw [8] (fun i wr => ∃ k : Nat, k ≤ ln ∧ i = .int .i64 k ∧ Below w2.heap.size w2 wr ∧ (if (l.drop k).any (fun x => !(endF b) (kdA p x)) = true then (20 : Int) else dR) = R) (fun i _ => ln - (intOf i).toNat)
    case atStart => exact ⟨0, by omega, rfl, Below.refl _ _, HR0.out⟩
    case round =>
      clear HR0
      obtain ⟨k, hk, rfl, hbe, hrel⟩ := hrel
      have HR := Lib.hid hrel
      have HB3 := Lib.hid (HB2.out.trans (hbe.mono HB2.out.size))
      have HX3 := Lib.hid (HX2.out.later hbe)
      have HBE := Lib.hid hbe
      clear hbe hrel
      by_cases hlt : k < ln
      rotate_left
      · obtain rfl : ln = k := by omega
        have HV := Lib.hid (show R = dR by rw [← HR.out, List.drop_of_length_le (by rw [HLN.out]; omega)]; rfl)
        go_wp2_with fail
        refine (HT.out _ HB3.out HIN.out).mono ?_
        rintro e w4 ⟨rfl, hb⟩
        have HB4 := Lib.hid (HB3.out.trans (hb.mono HB3.out.size))
        clear hb
        cases du with
        | true =>
          go_wp2_with fail
          go_ret
          exact ⟨by rw [HV.out, ← HDR.out]; rfl, HB4.out⟩
        | false =>
          go_wp2_with fail
          go_ret
          exact ⟨by rw [HV.out, ← HDR.out]; rfl, HB4.out⟩
      have hkl : k < l.length := by rw [HLN.out]; exact hlt
      obtain ⟨bb, off, rfl, hbb, hcells⟩ := HA.out (by omega)
      have c0 := ((hcells k hkl).below HB3.out hbb).c1
      rw [Nat.mul_one] at c0
      have hbz : bb < wr.heap.size := Nat.lt_of_lt_of_le hbb HB3.out.size
      obtain ⟨x, hy, hxn⟩ := inN_nat (HIN.out l[k] (List.getElem_mem hkl))
      have HD := Lib.hid (show (if (!(endF b) (kdA p l[k]) || (l.drop (k + 1)).any (fun x => !(endF b) (kdA p x))) = true then (20 : Int) else dR) = R from by
        have h := HR.out
        rw [List.drop_eq_getElem_cons hkl, List.any_cons] at h
        exact h)
      rw [hy] at c0 HD
      have hxl : x < p.ms.length := by rw [HN.out]; exact hxn
      obtain ⟨b1, off1, rfl, hbb1, hcells1⟩ := HA1.out (by omega)
      obtain ⟨m0, m1⟩ := ((hcells1 x hxl).below HB3.out hbb1).c2
      have hb1z := Nat.lt_of_lt_of_le hbb1 HB3.out.size
      rw [kdA_nat hxl] at HD
      obtain ⟨x0, x1, xf, xz⟩ := HX3.out.v2
      clear hcells hcells1 hy hkl
      generalize p.ms[x] = mx at *
      obtain ⟨sm, tm⟩ := mx
      dsimp only at m0 m1 HD
      have K86 := Lib.hid (fun w1 => isFirst86 sm w1)
      have K87 := Lib.hid (fun w1 => isLast87 sm w1)
      clear hxl
      go_wp2_with fail
      refine wp_region_later (by kernel_rfl) (by kernel_rfl) ?_
      repeat go_big_quiet_step (fail)
      refine wpQuiet_nil ?_
      rintro w5 ⟨⟨_, hb⟩, rfl⟩
      have HB5 := Lib.hid (HB3.out.trans (hb.mono HB3.out.size))
      have HBL := Lib.hid hb
      clear hb x0 x1 xf xz m0 m1 c0 hbz hb1z
      cases b with
      | false =>
        obtain ⟨q, hq⟩ : ∃ q, bgB sm = q := ⟨_, rfl⟩
        rw [hq] at K86
        have HD2 := Lib.hid (show (if (!q || (l.drop (k + 1)).any (fun x => !(endF false) (kdA p x))) = true then (20 : Int) else dR) = R from by rw [← HD.out, ← hq]; rfl)
        clear hq
        go_wp2_with fail
        refine (K86.out _).mono ?_
        rintro e w6 ⟨rfl, rfl⟩
        cases q with
        | true =>
          go_wp2_with fail
          go_roundw
          case rel => exact ⟨k + 1, by omega, by go_num, HBE.out.trans (HBL.out.mono HBE.out.size), HD2.out⟩
          case measure => simp [intOf]; omega
        | false =>
          go_wp2_with fail
          go_ret
          exact ⟨by rw [← HD2.out]; rfl, HB5.out⟩
      | true =>
        obtain ⟨q, hq⟩ : ∃ q, enB sm = q := ⟨_, rfl⟩
        rw [hq] at K87
        have HD2 := Lib.hid (show (if (!q || (l.drop (k + 1)).any (fun x => !(endF true) (kdA p x))) = true then (20 : Int) else dR) = R from by rw [← HD.out, ← hq]; rfl)
        clear hq
        go_wp2_with fail
        refine (K87.out _).mono ?_
        rintro e w6 ⟨rfl, rfl⟩
        cases q with
        | true =>
          go_wp2_with fail
          go_roundw
          case rel => exact ⟨k + 1, by omega, by go_num, HBE.out.trans (HBL.out.mono HBE.out.size), HD2.out⟩
          case measure => simp [intOf]; omega
        | false =>
          go_wp2_with fail
          go_ret
          exact ⟨by rw [← HD2.out]; rfl, HB5.out⟩
set_option maxRecDepth 100000 in
set_option maxHeartbeats 1000000 in
theorem checkEnds63L (w : World) (v1 v2 s t : Value) (p : Pl) (src snk : List Int) (hv : PlR w w.heap.size v1 v2 p) (hs : SlL encI 1 w w.heap.size s src) (ht : SlL encI 1 w w.heap.size t snk) (hn64 : p.ms.length ≤ 1000) :
    Calls Tryz.prog 63 #[.agg #[v1, v2], s, t] w (Ret (.int .i64 (endsE p src snk)) w) := by
  have C1 := Lib.hid (fun (w1 : World) (hb : Below w.heap.size w w1) => ends123L w1 v1 v2 s false p src (hv.later hb) hn64 (hs.later hb))
  have C2 := Lib.hid (fun (w1 : World) (hb : Below w.heap.size w w1) => ends123L w1 v1 v2 t true p snk (hv.later hb) hn64 (ht.later hb))
  have C3 := Lib.hid (fun (w1 : World) (hb : Below w.heap.size w w1) (x : Int) (h0 : endE p enB snk = 0) => in24 t snk x w1 ((ht.later hb).short (by
    obtain ⟨k1, _, k3⟩ := endE_ok h0
    have := nodup_inn k3 k1
    omega)))
  clear hn64
  obtain ⟨a1, n1, a2, n2, rfl, rfl⟩ := hv.agg
  obtain ⟨a, c, rfl, hlen, hA⟩ := hs
  have HA := Lib.hid hA
  clear hA hv ht
  obtain ⟨hl, hlc⟩ := hlen
  obtain ⟨n, hn⟩ : ∃ n, p.ms.length = n := ⟨_, rfl⟩
  obtain ⟨m, hm⟩ : ∃ m, p.arcs.length = m := ⟨_, rfl⟩
  obtain ⟨ln, hll⟩ : ∃ m, src.length = m := ⟨_, rfl⟩
  obtain ⟨R, hR⟩ : ∃ R, endsE p src snk = R := ⟨_, rfl⟩
  rw [hR]
  unfold endsE at hR
  rw [any_both] at hR
  obtain ⟨E1, hE1⟩ : ∃ e, endE p bgB src = e := ⟨_, rfl⟩
  obtain ⟨E2, hE2⟩ : ∃ e, endE p enB snk = e := ⟨_, rfl⟩
  rw [hE1, hE2] at hR
  rw [hE2] at C3
  rw [show endE p (endF false) src = E1 from hE1] at C1
  rw [show endE p (endF true) snk = E2 from hE2] at C2
  clear hE1 hE2
  rw [hn] at C1 C2 ⊢
  rw [hm] at C1 C2 ⊢
  rw [hll] at C1 hl hlc ⊢
  have HLN := Lib.hid hll
  clear hn hm hll
  have HB := Lib.hid ((Below.refl w.heap.size w).alloc (Nat.le_refl _) (.cells #[.slice a1 n n1, .slice a2 m n2] 25))
  have HX := Lib.hid (Box.new w #[.slice a1 n n1, .slice a2 m n2] 25)
  by_cases h1 : E1 = 0
  rotate_left
  · have k1 : (E1 == 0) = false := beq_eq_false_iff_ne.2 h1
    have hR0 : (if E1 = 0 then (if (src.drop 0).any (fun x => snk.contains x) = true then (9 : Int) else 0) else E1) = R := by rw [if_neg h1, ← hR, if_pos h1]
    go_enter Tryz.func63, Tryz.ntmps63
    go_wp2_with fail
    refine (C1.out _ HB.out).mono ?_
    rintro e w2 ⟨rfl, hb⟩
    have HB2 := Lib.hid (HB.out.trans (hb.mono HB.out.size))
    clear hb HX
    have HR1 := Lib.hid (show E1 = R from by rw [if_neg h1] at hR0; exact hR0)
    clear hR hR0 C2 C3
    go_wp2_with fail
    go_loopw [7, 8] (fun e i wr => ∃ k : Nat, k ≤ ln ∧ i = .int .i64 k ∧ Below w.heap.size w wr ∧ e = .int .i64 E1) (fun _ i _ => ln - (intOf i).toNat)
    case atStart => exact ⟨0, by omega, rfl, HB2.out, rfl⟩
    case round =>
      obtain ⟨k, hk, rfl, hbe, rfl⟩ := hrel
      have HBE := Lib.hid hbe
      clear hbe
      by_cases hlt : k < ln
      · go_wp2_with fail
        go_ret
        exact ⟨by rw [HR1.out]; rfl, HBE.out⟩
      · obtain rfl : ln = k := by omega
        go_wp2_with fail
        go_ret
        exact ⟨by rw [HR1.out]; rfl, HBE.out⟩
  subst h1
  rw [if_neg (by simp)] at hR
  have hR0 : (if E2 = 0 then (if (src.drop 0).any (fun x => snk.contains x) = true then (9 : Int) else 0) else E2) = R := by
    rw [List.drop_zero, ← hR]
    by_cases h2 : E2 = 0
    · rw [if_pos h2, if_neg (show ¬ E2 ≠ 0 by simpa using h2)]
    · rw [if_neg h2, if_pos h2]
  go_enter Tryz.func63, Tryz.ntmps63
  go_wp2_with fail
  refine (C1.out _ HB.out).mono ?_
  rintro e w2 ⟨rfl, hb⟩
  have HB2 := Lib.hid (HB.out.trans (hb.mono HB.out.size))
  have HX2 := Lib.hid (HX.out.later hb)
  clear hb HX
  obtain ⟨x0, x1, xf, xz⟩ := HX2.out.v2
  go_wp2_with fail
  refine (C2.out _ HB2.out).mono ?_
  rintro e w3 ⟨rfl, hb⟩
  have HB3 := Lib.hid (HB2.out.trans (hb.mono HB2.out.size))
  clear hb x0 x1 xf xz
  have HR0 := Lib.hid hR0
  clear hR hR0
  go_wp2_with fail
  go_loopw [7, 8] (fun e i wr => ∃ k : Nat, k ≤ ln ∧ i = .int .i64 k ∧ Below w.heap.size w wr ∧ ∃ E : Int, e = .int .i64 E ∧ (E = 0 → E2 = 0) ∧ (if E = 0 then (if (src.drop k).any (fun x => snk.contains x) = true then (9 : Int) else 0) else E) = R) (fun _ i _ => ln - (intOf i).toNat)
  case atStart => exact ⟨0, by omega, rfl, HB3.out, _, rfl, (fun h => h), HR0.out⟩
  case round =>
    clear HR0
    obtain ⟨k, hk, rfl, hbe, E, rfl, he0, hrel⟩ := hrel
    have HE0 := Lib.hid he0
    clear he0
    have HR := Lib.hid hrel
    have HBE := Lib.hid hbe
    clear hbe hrel
    by_cases hlt : k < ln
    rotate_left
    · obtain rfl : ln = k := by omega
      have HV := Lib.hid (show E = R by
        have h := HR.out
        rw [List.drop_of_length_le (by rw [HLN.out]; omega)] at h
        split at h
        · rename_i h0; rw [h0, ← h]; rfl
        · exact h)
      go_wp2_with fail
      go_ret
      exact ⟨by rw [HV.out]; rfl, HBE.out⟩
    by_cases hE : E = 0
    rotate_left
    · have k1 : (E == 0) = false := beq_eq_false_iff_ne.2 hE
      have HV := Lib.hid (show E = R by have h := HR.out; rw [if_neg hE] at h; exact h)
      clear hE
      go_wp2_with fail
      go_ret
      exact ⟨by rw [HV.out]; rfl, HBE.out⟩
    subst hE
    have hkl : k < src.length := by rw [HLN.out]; exact hlt
    obtain ⟨bb, off, rfl, hbb, hcells⟩ := HA.out (by omega)
    have c0 := ((hcells k hkl).below HBE.out hbb).c1
    rw [Nat.mul_one] at c0
    have hbz : bb < wr.heap.size := Nat.lt_of_lt_of_le hbb HBE.out.size
    have HD := Lib.hid (show (if (snk.contains src[k] || (src.drop (k + 1)).any (fun x => snk.contains x)) = true then (9 : Int) else 0) = R from by
      have h := HR.out
      rw [if_pos rfl, List.drop_eq_getElem_cons hkl, List.any_cons] at h
      exact h)
    have C3k := Lib.hid (fun w1 hb => C3.out w1 hb src[k] (HE0.out rfl))
    clear hcells
    generalize src[k] = x at *
    obtain ⟨q, hq⟩ : ∃ q, snk.contains x = q := ⟨_, rfl⟩
    rw [hq] at C3k HD
    clear hq
    go_wp2_with fail
    refine (C3k.out _ HBE.out).mono ?_
    rintro e6 w6 ⟨rfl, rfl⟩
    cases q with
    | true =>
      go_wp2_with fail
      go_roundw
      case rel => exact ⟨k + 1, by omega, by go_num, HBE.out, 9, rfl, (fun h => absurd h (by decide)), by rw [if_neg (by decide), ← HD.out]; rfl⟩
      case measure => simp [intOf]; omega
    | false =>
      go_wp2_with fail
      go_roundw
      case rel => exact ⟨k + 1, by omega, by go_num, HBE.out, 0, rfl, (fun _ => HE0.out (by first | rfl | trivial)), by rw [if_pos rfl, ← HD.out]; rfl⟩
      case measure => simp [intOf]; omega
end Go.Proofs.YtahpdkkpnkhnhaaGreatDoor
/- Plain: the commands keep a state valid. -/
namespace Go.Proofs.YtahpdkkpnkhnhaaGreatDoor
open Go Go.Proofs Go.RowKit Go.Shelf
abbrev nAt (l : List Int) (k : Nat) : Nat := (l.getD k 0).toNat
structure Along (l : List Int) (F : Nat → Sx → Sx) (st S : List Sx) : Prop where
  len : S.length = st.length
  on : ∀ k, k < l.length → sAt S (nAt l k) = F k (sAt st (nAt l k))
  off : ∀ x, (∀ k, k < l.length → nAt l k ≠ x) → sAt S x = sAt st x
theorem Along.of {p : Pl} {l : List Int} (hl : PaV p l) {st : List Sx} (hn : st.length = p.ms.length) (F : Nat → Sx → Sx) : Along l F st (alongTo F l st l.length) :=
  ⟨along_len _ _ _ _, fun k hk => along_on F l st (fun j hj => by rw [hn]; exact (hl.nat hj).2) hl.ndN _ (Nat.le_refl _) k hk, fun x hx => along_off F l st x _ hx⟩
theorem StV.neg {p : Pl} {st : List Sx} (hok : OkP p) (h : StV p st) {x : Nat} (hx : x < p.ms.length) (h0 : (sAt st x).feeds < 0) : (sAt st x).feeds = -1 := by
  rcases h.fd x hx with h1 | h1
  · exact h1
  · obtain ⟨y, hy, _⟩ := inN_nat (hok.ins _ h1).2.1
    dsimp only at hy; omega
theorem StV.at_ {p : Pl} {st : List Sx} (hok : OkP p) (h : StV p st) {x y : Nat} (hx : x < p.ms.length) (h0 : (sAt st x).feeds = (y : Int)) : y < p.ms.length := by
  rcases h.fd x hx with h1 | h1
  · omega
  · obtain ⟨z, hz, hl⟩ := inN_nat (hok.ins _ h1).2.1
    dsimp only at hz; omega
theorem noB_list : (⟨#[]⟩ : ByteArray).toList = [] := by simp [ByteArray.toList_eq]
section
variable {p : Pl} {st S : List Sx} {l : List Int} {g : ByteArray} {cl : Bool}
structure StartV (p : Pl) (st S : List Sx) (l : List Int) (g : ByteArray) : Prop where
  len : S.length = st.length
  runs : ∀ k, k < l.length → (sAt S (nAt l k)).runs = cvB (kdA p (nAt l k : Nat))
  feeds : ∀ k, k + 1 < l.length → (sAt S (nAt l k)).feeds = (nAt l (k + 1) : Nat)
  fend : ∀ k, k + 1 = l.length → (sAt S (nAt l k)).feeds = -1
  grain : ∀ k, k < l.length → (sAt S (nAt l k)).grain = if kpB (kdA p (nAt l k : Nat)) then g else (sAt st (nAt l k)).grain
  off : ∀ x, (∀ k, k < l.length → nAt l k ≠ x) → sAt S x = sAt st x
theorem StartV.of (hok : OkP p) (h : StV p st) (hl : PaV p l) (hs : ∀ k, k < l.length → StK p st g k (nAt l k)) : StartV p st (startTo p l g st l.length) l g := by
  have A := Along.of hl h.len (startV p l g)
  rw [← start_along] at A
  generalize startTo p l g st l.length = S at A
  refine ⟨A.len, fun k hk => by rw [A.on k hk]; rfl, fun k hk => ?_, fun k hk => ?_, fun k hk => by rw [A.on k hk]; rfl, A.off⟩
  · rw [A.on k (by omega)]
    show (if k + 1 < l.length then l.getD (k + 1) 0 else _) = _
    rw [if_pos hk]; exact (hl.nat hk).1
  · rw [A.on k (by omega)]
    show (if k + 1 < l.length then l.getD (k + 1) 0 else (sAt st (nAt l k)).feeds) = _
    rw [if_neg (by omega)]
    exact h.neg hok (hl.nat (by omega)).2 (hs k (by omega)).fd
theorem StartV.to (A : StartV p st S l g) (hok : OkP p) (h : StV p st) (hl : PaV p l) (hs : ∀ k, k < l.length → StK p st g k (nAt l k)) {x y : Nat} (hx : x < p.ms.length) (hf : (sAt S x).feeds = (y : Int)) :
    (∃ k, k + 1 < l.length ∧ x = nAt l k ∧ y = nAt l (k + 1)) ∨ ((∀ k, k < l.length → nAt l k ≠ x) ∧ (∀ k, k < l.length → nAt l k ≠ y) ∧ (sAt st x).feeds = (y : Int)) := by
  rcases hl.cases x with ⟨k, hk, rfl⟩ | hx0
  · by_cases hk1 : k + 1 < l.length
    · rw [A.feeds k hk1] at hf
      exact .inl ⟨k, hk1, rfl, by omega⟩
    · have := A.fend k (by omega); unfold nAt at this; omega
  · rw [A.off x hx0] at hf
    refine .inr ⟨hx0, fun k hk e => ?_, hf⟩
    have := (hs k hk).fed x (by have := h.len; omega)
    rw [e] at this; exact this hf
theorem setB_at (hl : PaV p l) : setB st l = true ↔ ∀ k, k + 1 < l.length → (sAt st (nAt l k)).feeds = (nAt l (k + 1) : Nat) := by
  rw [setB_iff]
  constructor
  · intro h k hk
    have := h (k + 1) hk
    unfold setK at this
    simp only [Bool.or_eq_true, decide_eq_true_eq, Nat.add_sub_cancel, beq_iff_eq] at this
    rcases this with h1 | h1
    · omega
    · rw [← (hl.nat hk).1]; exact h1
  · intro h k hk
    unfold setK
    simp only [Bool.or_eq_true, decide_eq_true_eq, beq_iff_eq]
    by_cases h0 : k = 0
    · exact .inl h0
    · right
      have := h (k - 1) (by omega)
      rw [show k - 1 + 1 = k by omega] at this
      rw [(hl.nat hk).1]; exact this
structure StopV (p : Pl) (st S : List Sx) (l : List Int) (cl : Bool) : Prop where
  len : S.length = st.length
  runs : ∀ k, k < l.length → (sAt S (nAt l k)).runs = false
  feeds : ∀ k, k + 1 < l.length → (sAt S (nAt l k)).feeds = -1
  fend : ∀ k, k + 1 = l.length → (sAt S (nAt l k)).feeds = (sAt st (nAt l k)).feeds
  grain : ∀ k, k < l.length → (sAt S (nAt l k)).grain = if cvB (kdA p (nAt l k : Nat)) && cl then ⟨#[]⟩ else (sAt st (nAt l k)).grain
  off : ∀ x, (∀ k, k < l.length → nAt l k ≠ x) → sAt S x = sAt st x
theorem StopV.of (h : StV p st) (hl : PaV p l) (cl : Bool) : StopV p st (stopTo p l cl st l.length) l cl := by
  have A := Along.of hl h.len (stopV p l cl)
  rw [← stop_along] at A
  generalize stopTo p l cl st l.length = S at A
  refine ⟨A.len, fun k hk => ?_, fun k hk => ?_, fun k hk => ?_, fun k hk => by rw [A.on k hk]; rfl, A.off⟩
  · rw [A.on k hk]
    show (if cvB (kdA p (nAt l k : Nat)) then false else (sAt st (nAt l k)).runs) = false
    cases hq : cvB (kdA p (nAt l k : Nat)) with
    | true => rfl
    | false =>
      cases hr : (sAt st (nAt l k)).runs with
      | false => rfl
      | true => have := h.run _ (hl.nat hk).2 hr; unfold nAt at hq; rw [hq] at this; cases this
  · rw [A.on k (by omega)]
    show (if k + 1 < l.length then -1 else _) = _
    rw [if_pos hk]
  · rw [A.on k (by omega)]
    show (if k + 1 < l.length then -1 else _) = _
    rw [if_neg (by omega)]
theorem StopV.to (A : StopV p st S l cl) (h : StV p st) (hl : PaV p l) (hs : ∀ k, k + 1 < l.length → (sAt st (nAt l k)).feeds = (nAt l (k + 1) : Nat)) {x y : Nat} (hx : x < p.ms.length) (hf : (sAt S x).feeds = (y : Int)) :
    (sAt st x).feeds = (y : Int) ∧ (∀ k, k + 1 < l.length → nAt l k ≠ x) ∧ (sAt S x).grain = (sAt st x).grain ∧ ((sAt S x).runs = true → (sAt st x).runs = true ∧ (cvB (kdA p y) = true → (sAt S y).runs = (sAt st y).runs)) ∧ (sAt S y).grain = (sAt st y).grain := by
  have h1 : (sAt st x).feeds = (y : Int) ∧ (∀ k, k + 1 < l.length → nAt l k ≠ x) ∧ (sAt S x).grain = (sAt st x).grain ∧ ((sAt S x).runs = true → (sAt st x).runs = true) := by
    rcases hl.cases x with ⟨k, hk, rfl⟩ | hx0
    · by_cases hk1 : k + 1 < l.length
      · have := A.feeds k hk1; unfold nAt at this; omega
      · have e1 := A.fend k (by omega)
        have e2 := A.grain k hk
        have e3 := A.runs k hk
        have e4 := hl.lst
        rw [show l.length - 1 = k by omega, (hl.nat hk).1] at e4
        unfold nAt at e1 e2 e3
        rw [e4] at e2
        refine ⟨e1.symm.trans hf, fun j hj e => ?_, e2, fun hr => by rw [e3] at hr; cases hr⟩
        have := hl.ndN j k (by omega) hk e
        omega
    · rw [A.off x hx0] at hf ⊢
      exact ⟨hf, fun k hk => hx0 k (by omega), rfl, fun h => h⟩
  obtain ⟨a1, a2, a3, a4⟩ := h1
  have h2 : ∀ j, j < l.length → nAt l j = y → cvB (kdA p y) = false := fun j hj e => by
    subst e
    by_cases h0 : j = 0
    · subst h0
      have := hl.fst
      rw [(hl.nat hj).1] at this; exact this
    · have e5 := hs (j - 1) (by omega)
      rw [show j - 1 + 1 = j by omega] at e5
      exact absurd (h.uq _ _ (hl.nat (by omega)).2 hx (show 0 ≤ (sAt st (nAt l (j - 1))).feeds by rw [e5]; exact Int.natCast_nonneg _) (e5.trans a1.symm)) (a2 (j - 1) (by omega))
  refine ⟨a1, a2, a3, fun hr => ⟨a4 hr, fun hc => ?_⟩, ?_⟩
  · rw [A.off y fun k hk e => by rw [h2 k hk e] at hc; cases hc]
  · rcases hl.cases y with ⟨k, hk, rfl⟩ | hy0
    · have e2 := A.grain k hk
      unfold nAt at e2
      rw [e2, h2 k hk rfl]; rfl
    · rw [A.off y hy0]
structure ResV (p : Pl) (st S : List Sx) (l : List Int) : Prop where
  len : S.length = st.length
  runs : ∀ k, k < l.length → (sAt S (nAt l k)).runs = cvB (kdA p (nAt l k : Nat))
  feeds : ∀ x, (sAt S x).feeds = (sAt st x).feeds
  grain : ∀ x, (sAt S x).grain = (sAt st x).grain
  off : ∀ x, (∀ k, k < l.length → nAt l k ≠ x) → sAt S x = sAt st x
theorem ResV.of (h : StV p st) (hl : PaV p l) : ResV p st (resumeTo p l st l.length) l := by
  have A := Along.of hl h.len (resumeV p l)
  rw [← resume_along] at A
  generalize resumeTo p l st l.length = S at A
  refine ⟨A.len, fun k hk => by rw [A.on k hk]; rfl, fun x => ?_, fun x => ?_, A.off⟩
  · rcases hl.cases x with ⟨k, hk, rfl⟩ | hx0
    · have e := A.on k hk; unfold nAt at e; rw [e]; rfl
    · rw [A.off x hx0]
  · rcases hl.cases x with ⟨k, hk, rfl⟩ | hx0
    · have e := A.on k hk; unfold nAt at e; rw [e]; rfl
    · rw [A.off x hx0]
end
theorem mem_upL {st : List Sx} {mc : Int} {x n : Nat} : (x : Int) ∈ upL st mc n ↔ x < n ∧ UpR st mc x := by
  unfold upL
  rw [List.mem_map]
  constructor
  · rintro ⟨i, hi, e⟩
    rw [List.mem_filter, List.mem_range] at hi
    have : i = x := by omega
    subst this
    have h2 := hi.2
    unfold upB at h2
    simp only [decide_eq_true_eq] at h2
    exact ⟨hi.1, h2⟩
  · rintro ⟨h1, h2⟩
    exact ⟨x, List.mem_filter.2 ⟨List.mem_range.2 h1, by unfold upB; simpa using h2⟩, rfl⟩
theorem upL_nn {st : List Sx} {mc y : Int} {n : Nat} (h : y ∈ upL st mc n) : 0 ≤ y := by
  unfold upL at h
  obtain ⟨i, _, rfl⟩ := List.mem_map.1 h
  omega
theorem offL_get : ∀ (l : List Int) (st : List Sx) (x : Nat), (∀ m ∈ l, 0 ≤ m) → sAt (offL st l) x = if (x : Int) ∈ l then offX (sAt st x) else sAt st x
  | [], st, x, _ => by simp [offL]
  | m :: r, st, x, h => by
    show sAt (offL (offAt st m) r) x = _
    rw [offL_get r _ x fun y hy => h y (by simp [hy])]
    have h0 := h m (by simp)
    have e : sAt (offAt st m) x = if (x : Int) = m then offX (sAt st x) else sAt st x := by
      unfold offAt sAt
      rw [getD_set]
      by_cases hx : (x : Int) = m
      · subst hx
        rw [Int.toNat_natCast, if_pos rfl]
        by_cases hl : x < st.length
        · rw [if_pos ⟨rfl, hl⟩]
        · rw [if_neg (fun hh => hl hh.2), List.getD_eq_getElem?_getD, List.getElem?_eq_none (by omega)]; rfl
      · rw [if_neg hx, if_neg (fun hh => hx (by omega))]
    rw [e]
    by_cases hx : (x : Int) = m
    · rw [if_pos hx]
      have : (x : Int) ∈ m :: r := by simp [hx]
      rw [if_pos this]
      by_cases hr : (x : Int) ∈ r
      · rw [if_pos hr]; rfl
      · rw [if_neg hr]
    · rw [if_neg hx]
      by_cases hr : (x : Int) ∈ r
      · rw [if_pos hr, if_pos (by simp [hr])]
      · rw [if_neg hr, if_neg (by simp [hr, hx])]
structure FltV (st S : List Sx) (m : Nat) : Prop where
  len : S.length = st.length
  on : ∀ x : Nat, x < st.length → x = m ∨ UpR st m x → sAt S x = offX (sAt st x)
  off : ∀ x : Nat, ¬ (x = m ∨ UpR st m x) → sAt S x = sAt st x
theorem FltV.of (st : List Sx) (m : Nat) : FltV st (offL st (upL st m st.length ++ [(m : Int)])) m := by
  have hg := fun x : Nat => offL_get (upL st m st.length ++ [(m : Int)]) st x fun y hy => by
    rcases List.mem_append.1 hy with h | h
    · exact upL_nn h
    · simp at h; omega
  refine ⟨offL_len _ _, fun x hx h => ?_, fun x h => ?_⟩
  · rw [hg, if_pos]
    rcases h with rfl | h
    · simp
    · exact List.mem_append_left _ (mem_upL.2 ⟨hx, h⟩)
  · rw [hg, if_neg]
    intro hh
    rcases List.mem_append.1 hh with h1 | h1
    · exact h (.inr (mem_upL.1 h1).2)
    · simp at h1; exact h (.inl (by omega))
theorem FltV.feeds {st S : List Sx} {m : Nat} (A : FltV st S m) {x : Nat} (hx : x < st.length) : (sAt S x).feeds = (sAt st x).feeds ∧ (sAt S x).grain = (sAt st x).grain ∧ ((sAt S x).runs = true → (sAt st x).runs = true) := by
  by_cases h : x = m ∨ UpR st m x
  · rw [A.on x hx h]; exact ⟨rfl, rfl, fun h => by cases h⟩
  · rw [A.off x h]; exact ⟨rfl, rfl, fun h => h⟩
end Go.Proofs.YtahpdkkpnkhnhaaGreatDoor
/- Plain: a path that is started and cleaned; a fault and a return to work; stopped and started again. -/
namespace Go.Proofs.YtahpdkkpnkhnhaaGreatDoor
open Go Go.Proofs Go.RowKit Go.Shelf
theorem eqX_of {a b : Sx} (h1 : a.runs = b.runs) (h2 : a.feeds = b.feeds) (h3 : a.grain.toList = b.grain.toList) : eqX a b = true := by
  unfold eqX; rw [h1, h2, h3]; simp
theorem sameB_of : ∀ {a b : List Sx}, a.length = b.length → (∀ x : Nat, x < a.length → eqX (sAt a x) (sAt b x) = true) → sameB a b = true
  | [], [], _, _ => rfl
  | a :: r, b :: s, hl, h => by
    have h0 := h 0 (by simp)
    have ih := sameB_of (a := r) (b := s) (by simpa using hl) fun x hx => by
      have := h (x + 1) (by simpa using hx)
      simpa [sAt] using this
    simp only [sameB, Bool.and_eq_true]
    exact ⟨by simpa [sAt] using h0, ih⟩
  | [], _ :: _, hl, _ => by simp at hl
  | _ :: _, [], hl, _ => by simp at hl
section
variable {p : Pl} {st S : List Sx} {l : List Int} {g : ByteArray}
theorem StartV.set (A : StartV p st S l g) (hl : PaV p l) : setB S l = true := (setB_at hl).2 A.feeds
theorem StartV.fedBy (A : StartV p st S l g) (hok : OkP p) (h : StV p st) (hl : PaV p l) (hs : ∀ k, k < l.length → StK p st g k (nAt l k)) {x k : Nat} (hx : x < p.ms.length) (hk : k < l.length) (hf : (sAt S x).feeds = (nAt l k : Nat)) : ∃ j, j + 1 = k ∧ x = nAt l j := by
  rcases A.to hok h hl hs hx hf with ⟨j, hj, e1, e2⟩ | ⟨_, a2, _⟩
  · exact ⟨j, hl.ndN _ _ hj hk e2.symm, e1⟩
  · exact absurd rfl (a2 k hk)
theorem StartV.up (A : StartV p st S l g) (hok : OkP p) (h : StV p st) (hl : PaV p l) (hs : ∀ k, k < l.length → StK p st g k (nAt l k)) {k x : Nat} (hk : k < l.length) (hu : UpR S (nAt l k : Nat) x) : ∃ j, j < k ∧ x = nAt l j := by
  have hlen := A.len.trans h.len
  induction hu with
  | @base i hi hne hf =>
    rw [← stGet hi] at hf
    obtain ⟨j, hj, e⟩ := A.fedBy hok h hl hs (by omega) hk hf
    exact ⟨j, by omega, e⟩
  | @step i m hi hne hf hm ih =>
    obtain ⟨j, hj, e⟩ := ih
    rw [← stGet hi, e] at hf
    obtain ⟨j', hj', e'⟩ := A.fedBy hok h hl hs (by omega) (by omega) hf
    exact ⟨j', by omega, e'⟩
theorem StartV.back (A : StartV p st S l g) {m : Nat} (hm : m < l.length) {C D : List Sx} (B : FltV S C (nAt l m)) (E : ResV p C D l) (hok : OkP p) (h : StV p st) (hl : PaV p l) (hs : ∀ k, k < l.length → StK p st g k (nAt l k)) : sameB D S = true := by
  have hlen := A.len.trans h.len
  refine sameB_of (by rw [E.len, B.len]) fun x hx => ?_
  have hxl : x < S.length := by rw [E.len, B.len] at hx; exact hx
  obtain ⟨f1, f2, _⟩ := B.feeds hxl
  refine eqX_of ?_ ((E.feeds x).trans f1) (by rw [E.grain, f2])
  rcases hl.cases x with ⟨k, hk, rfl⟩ | hx0
  · exact (E.runs k hk).trans (A.runs k hk).symm
  · rw [E.off x hx0, B.off x]
    rintro (h1 | h1)
    · exact hx0 m hm h1.symm
    · obtain ⟨j, hj, e⟩ := A.up hok h hl hs hm h1
      exact hx0 j (by omega) e.symm
end
end Go.Proofs.YtahpdkkpnkhnhaaGreatDoor
/- Plain: what a command may change; two paths that are set have no machine in common. -/
namespace Go.Proofs.YtahpdkkpnkhnhaaGreatDoor
open Go Go.Proofs Go.RowKit Go.Shelf
structure StepOk (p : Pl) (st S : List Sx) (l : List Int) (g : ByteArray) (kd : Nat) (m : Nat) : Prop where
  on : (sAt S m).grain.toList ≠ (sAt st m).grain.toList → (m : Int) ∈ l
  emp : (sAt S m).grain.toList ≠ (sAt st m).grain.toList → (sAt st m).grain.toList = [] → kd = 0 ∧ (sAt S m).grain.toList = g.toList
  full : (sAt S m).grain.toList ≠ (sAt st m).grain.toList → (sAt st m).grain.toList ≠ [] → (sAt S m).grain.toList = [] ∧ kd = 2 ∧ cvB (kdA p m) = true
  all : eqX (sAt S m) (sAt st m) = true ∨ (m : Int) ∈ l ∨ (kd = 3 ∧ (m : Int) ∈ upL st (l.getD 1 0) st.length)
def OneW (p : Pl) (st : List Sx) : Prop := ∀ x y : Nat, x < p.ms.length → (sAt st x).feeds = (y : Int) → cvB (kdA p y) = false → (sAt st y).feeds < 0
theorem eqX_self (a : Sx) : eqX a a = true := eqX_of rfl rfl rfl
section
variable {p : Pl} {st S : List Sx} {l : List Int} {g g' : ByteArray} {cl : Bool}
theorem PaV.mem (hl : PaV p l) {x : Nat} : (x : Int) ∈ l ↔ ∃ k, k < l.length ∧ nAt l k = x := by
  constructor
  · intro h
    obtain ⟨k, hk, e⟩ := mem_getD h
    exact ⟨k, hk, by unfold nAt; omega⟩
  · rintro ⟨k, hk, e⟩
    have := getD_mem hk
    rw [(hl.nat hk).1] at this
    subst e; exact this
theorem StepOk.off (hl : PaV p l) {m : Nat} (kd : Nat) (h : ¬ (m : Int) ∈ l → sAt S m = sAt st m) (hg : (m : Int) ∈ l → (sAt S m).grain.toList ≠ (sAt st m).grain.toList → ((sAt st m).grain.toList = [] → kd = 0 ∧ (sAt S m).grain.toList = g.toList) ∧ ((sAt st m).grain.toList ≠ [] → (sAt S m).grain.toList = [] ∧ kd = 2 ∧ cvB (kdA p m) = true)) : StepOk p st S l g kd m := by
  by_cases hm : (m : Int) ∈ l
  · exact ⟨fun _ => hm, fun h1 => (hg hm h1).1, fun h1 => (hg hm h1).2, .inr (.inl hm)⟩
  · have e := h hm
    exact ⟨fun h1 => absurd (by rw [e]) h1, fun h1 => absurd (by rw [e]) h1, fun h1 => absurd (by rw [e]) h1, .inl (by rw [e]; exact eqX_self _)⟩
theorem notin (hl : PaV p l) {m : Nat} (h : ¬ (m : Int) ∈ l) : ∀ k, k < l.length → nAt l k ≠ m := fun k hk e => h (hl.mem.2 ⟨k, hk, e⟩)
theorem StartV.step (A : StartV p st S l g) (hl : PaV p l) (hs : ∀ k, k < l.length → StK p st g k (nAt l k)) (m : Nat) : StepOk p st S l g 0 m := by
  refine .off hl 0 (fun h => A.off m (notin hl h)) fun h hne => ?_
  obtain ⟨k, hk, rfl⟩ := hl.mem.1 h
  have e := A.grain k hk
  rw [e] at hne ⊢
  cases hp : kpB (kdA p (nAt l k : Nat)) with
  | false => rw [hp] at hne; exact absurd rfl hne
  | true =>
    rw [hp] at hne
    refine ⟨fun _ => ⟨rfl, rfl⟩, fun h1 => ?_⟩
    rcases (hs k hk).gr with h2 | h2
    · exact absurd (List.isEmpty_iff.1 h2) h1
    · exact absurd h2.symm hne
theorem StopV.step (A : StopV p st S l cl) (hl : PaV p l) (m : Nat) : StepOk p st S l g (if cl then 2 else 1) m := by
  refine .off hl _ (fun h => A.off m (notin hl h)) fun h hne => ?_
  obtain ⟨k, hk, rfl⟩ := hl.mem.1 h
  have e := A.grain k hk
  rw [e] at hne ⊢
  cases cl with
  | false => rw [Bool.and_false] at hne; exact absurd rfl hne
  | true =>
    rw [Bool.and_true] at hne ⊢
    cases hp : cvB (kdA p (nAt l k : Nat)) with
    | false => rw [hp] at hne; exact absurd rfl hne
    | true =>
      have e0 : (if true = true then (⟨#[]⟩ : ByteArray) else (sAt st (nAt l k)).grain).toList = [] := noB_list
      rw [hp, e0] at hne
      rw [e0]
      exact ⟨fun h1 => absurd h1.symm hne, fun _ => ⟨rfl, rfl, rfl⟩⟩
theorem ResV.step (A : ResV p st S l) (hl : PaV p l) (m : Nat) : StepOk p st S l g 4 m :=
  .off hl _ (fun h => A.off m (notin hl h)) fun _ hne => absurd (by rw [A.grain]) hne
theorem FltV.step (A : FltV st S (nAt l 1)) (hl : PaV p l) {m : Nat} (hm : m < st.length) : StepOk p st S l g 3 m := by
  have e := (A.feeds hm).2.1
  refine ⟨fun h1 => absurd (by rw [e]) h1, fun h1 => absurd (by rw [e]) h1, fun h1 => absurd (by rw [e]) h1, ?_⟩
  by_cases h : m = nAt l 1 ∨ UpR st (nAt l 1 : Nat) m
  · rcases h with h | h
    · exact .inr (.inl (hl.mem.2 ⟨1, by have := hl.two; omega, h.symm⟩))
    · refine .inr (.inr ⟨rfl, ?_⟩)
      rw [(hl.nat (by have := hl.two; omega : 1 < l.length)).1]
      exact mem_upL.2 ⟨hm, h⟩
  · rw [A.off m h]; exact .inl (eqX_self _)
theorem StartV.one (A : StartV p st S l g) (hok : OkP p) (h : StV p st) (hl : PaV p l) (hs : ∀ k, k < l.length → StK p st g k (nAt l k)) (ho : OneW p st) : OneW p S := by
  intro x y hx hf hc
  rcases A.to hok h hl hs hx hf with ⟨k, hk, e1, e2⟩ | ⟨a1, a2, a3⟩
  · by_cases hk1 : k + 1 + 1 = l.length
    · rw [e2, A.fend _ hk1]; omega
    · have := hl.inner (k + 1) (by omega) (by omega)
      rw [(hl.nat hk).1] at this
      rw [e2] at hc
      unfold nAt at hc
      rw [hc] at this; cases this
  · rw [A.off y a2]; exact ho x y hx a3 hc
theorem StopV.one (A : StopV p st S l cl) (h : StV p st) (hl : PaV p l) (hs : ∀ k, k + 1 < l.length → (sAt st (nAt l k)).feeds = (nAt l (k + 1) : Nat)) (ho : OneW p st) : OneW p S := by
  intro x y hx hf hc
  have h1 := ho x y hx (A.to h hl hs hx hf).1 hc
  rcases hl.cases y with ⟨k, hk, rfl⟩ | hy0
  · by_cases hk1 : k + 1 < l.length
    · have := A.feeds k hk1; unfold nAt at this; omega
    · have := A.fend k (by omega); unfold nAt at this; omega
  · rw [A.off y hy0]; exact h1
theorem ResV.one (A : ResV p st S l) (ho : OneW p st) : OneW p S := by
  intro x y hx hf hc
  rw [A.feeds] at hf ⊢
  exact ho x y hx hf hc
theorem FltV.one {m : Nat} (A : FltV st S m) (hok : OkP p) (h : StV p st) (ho : OneW p st) : OneW p S := by
  intro x y hx hf hc
  have hl := h.len
  rw [(A.feeds (by omega)).1] at hf
  have hy := h.at_ hok hx hf
  rw [(A.feeds (by omega)).1]
  exact ho x y hx hf hc
end
end Go.Proofs.YtahpdkkpnkhnhaaGreatDoor
