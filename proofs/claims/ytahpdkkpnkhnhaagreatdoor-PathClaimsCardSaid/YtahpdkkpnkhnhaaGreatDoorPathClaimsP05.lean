/- Lemmas on the way to the law PathClaims (part 5): Tj Tk -/
import Derived.Test.YtahpdkkpnkhnhaaGreatDoorPathClaimsP04
import Derived.Test.YtahpdkkpnkhnhaaGreatDoorPathClaimsP03
import Derived.Test.YtahpdkkpnkhnhaaGreatDoorLib29
import Derived.Test.YtahpdkkpnkhnhaaGreatDoorLib27
set_option linter.unusedVariables false
set_option linter.unusedSimpArgs false

/- Opening the arguments: lists of paths, and a list of machines. -/
namespace Go.Proofs.YtahpdkkpnkhnhaaGreatDoor
open Go Go.Proofs Go.RowKit Go.ChangeShapes Go.WideShapes Go.ChangeAt Go.Joins Go.Deep
/-- A path as the argument has it: it may be too long to be read. -/
structure PtV where
  a : Option Addr
  n : Nat
  c : Nat
  l : List Int
def PtV.enc (t : PtV) : List Value := [.slice t.a t.n t.c]
theorem PtV.enc_len (t : PtV) : t.enc.length = 1 := rfl
def pt0 : PtV := ⟨none, 0, 0, []⟩
structure PtF (w : World) (B : Nat) (t : PtV) : Prop where
  n : t.n ≤ 9223372036854775807
  p : t.n ≤ 80 → Sl encI 1 w B (.slice t.a t.n t.c) t.l
/-- The paths, if there are not too many. -/
def PvR (w : World) (B : Nat) (u : Value) (n : Nat) (l : List PtV) : Prop := n ≤ 20 → Sl PtV.enc 1 w B u l ∧ l.length = n ∧ ∀ t ∈ l, PtF w B t
def PtV.pt (t : PtV) : Pt := ⟨t.a, t.c, t.l⟩
/-- Where none is too long, they are read. -/
theorem PvR.good {w : World} {a : Option Addr} {n c : Nat} {l : List PtV} (h : Sl PtV.enc 1 w w.heap.size (.slice a n c) l ∧ l.length = n ∧ ∀ t ∈ l, PtF w w.heap.size t) (h80 : ∀ t ∈ l, t.n ≤ 80) :
    PtR w w.heap.size (.slice a n c) (l.map PtV.pt) ∧ (l.map PtV.pt).length = n ∧ ∀ t ∈ l.map PtV.pt, t.l.length ≤ 80 := by
  obtain ⟨h1, h2, h3⟩ := h
  have hl : ∀ t ∈ l, t.l.length = t.n := fun t ht => by
    obtain ⟨_, _, e, _⟩ := (h3 t ht).p (h80 t ht)
    injection e with e1 e2 e3
    exact e2.symm
  have hen : ∀ t ∈ l, t.pt.enc = t.enc := fun t ht => by
    unfold Pt.enc PtV.enc PtV.pt
    dsimp only
    rw [hl t ht]
  refine ⟨⟨?_, ?_⟩, by rw [List.length_map]; exact h2, ?_⟩
  · obtain ⟨a', c', e, hlen, hA⟩ := h1
    refine ⟨a', c', by rw [List.length_map]; exact e, by rw [List.length_map]; exact hlen, fun h0 => ?_⟩
    obtain ⟨b, off, e2, hb, hc⟩ := hA (by rw [List.length_map] at h0; exact h0)
    refine ⟨b, off, e2, hb, fun i hi => ?_⟩
    rw [List.getElem_map, hen _ (List.getElem_mem _)]
    exact hc i (by rw [List.length_map] at hi; exact hi)
  · intro t ht
    obtain ⟨x, hx, rfl⟩ := List.mem_map.1 ht
    have := (h3 x hx).p (h80 x hx)
    unfold PtV.pt
    dsimp only
    rw [hl x hx]
    exact this
  · intro t ht
    obtain ⟨x, hx, rfl⟩ := List.mem_map.1 ht
    have := h80 x hx
    rw [← hl x hx] at this
    exact this
section
variable {H : Type} {enc : TypeId × Value → H} {W : World}
set_option maxRecDepth 100000 in
theorem pv_open {fuel : Nat} {cs : List Value} {x : DataW H × List MemPlace} (h : DataW.trod enc Tryz.prog W 0 (fun _ => true) true fuel 26 cs = some x) : ∃ t : PtV, cs = PtV.enc t ∧ PtF W W.heap.size t := by
  obtain ⟨a1, n1, c1, rfl⟩ := slice_form Tryz.underlying26 h
  obtain ⟨k1, l, k2⟩ := ints_le ⟨_, h⟩
  exact ⟨⟨a1, n1, c1, l⟩, rfl, k1, k2⟩
theorem paths_open {n c : Nat} {a : Option Addr} {d : DataW H} {p : List MemPlace} (h : DataW.Trod enc Tryz.prog W 0 (fun _ => true) true 86 (.slice a n c) d p) :
    n ≤ 9223372036854775807 ∧ ∃ l, PvR W W.heap.size (.slice a n c) n l := by
  obtain ⟨fuel, hf⟩ := h
  obtain ⟨k1, k2⟩ := sl_open PtV.enc 1 Tryz.underlying86 (by omega) (by kernel_rfl) PtV.enc_len pt0 (PtF W W.heap.size) pv_open hf
  refine ⟨k1, ?_⟩
  by_cases h8 : n ≤ 20
  · obtain ⟨l, h1, h2, h3⟩ := k2 (by omega)
    exact ⟨l, fun _ => ⟨h2, h1, h3⟩⟩
  · exact ⟨[], fun h => absurd h h8⟩
set_option maxRecDepth 100000 in
/-- A claim by value. -/
theorem claim_open {r : Reach} {b0 : Nat} {v : Value} {d : DataW H} {p : List MemPlace} (hv : Value.okWide Tryz.prog W r b0 106 v) (h : DataW.Trod enc Tryz.prog W 0 (fun _ => true) true 106 v d p) :
    ∃ a n c a' n' c', v = .agg #[.slice a n c, .slice a' n' c'] ∧ n ≤ 9223372036854775807 ∧ n' ≤ 9223372036854775807 ∧ (∃ l, PvR W W.heap.size (.slice a n c) n l) ∧ ∃ l, n' ≤ 80 → Sl encI 1 W W.heap.size (.slice a' n' c') l := by
  obtain ⟨v0, v1, y0, y1, n, rfl, _, _, h0, h1⟩ := open_agg2 Tryz.underlying106 (by kernel_rfl) (by kernel_rfl) hv h
  obtain ⟨a1, n1, c1, e1⟩ := slice_form Tryz.underlying86 h0
  obtain ⟨a2, n2, c2, e2⟩ := slice_form Tryz.underlying26 h1
  cases e1
  cases e2
  obtain ⟨k1, k2⟩ := paths_open ⟨_, h0⟩
  obtain ⟨k3, k4⟩ := ints_le ⟨_, h1⟩
  exact ⟨a1, n1, c1, a2, n2, c2, rfl, k1, k3, k2, k4⟩
end
end Go.Proofs.YtahpdkkpnkhnhaaGreatDoor

/- Walks: the law PathClaims. -/
namespace Go.Proofs.YtahpdkkpnkhnhaaGreatDoor
open Go Go.Proofs Go.RowKit Go.Shelf
theorem unk_mem {n : Nat} {l : List Int} (h : unkE n l = 0) : ∀ x ∈ l, inN n x = true := by
  intro x hx
  have := unk_in18 h x hx
  unfold inN; simp only [Bool.and_eq_true, decide_eq_true_eq]; exact this
theorem unk_cases (n : Nat) (l : List Int) : (unkE n l = 0 ∧ ∀ x ∈ l, inN n x = true) ∨ (unkE n l = 10 ∧ ∃ x ∈ l, inN n x = false) := by
  by_cases h : unkE n l = 0
  · exact .inl ⟨h, unk_mem h⟩
  · refine .inr ?_
    unfold unkE at h ⊢
    cases hq : l.any (fun x => !inN n x) with
    | false => rw [hq] at h; exact absurd rfl h
    | true =>
      obtain ⟨x, h1, h2⟩ := List.any_eq_true.1 hq
      exact ⟨rfl, x, h1, by simpa using h2⟩
set_option maxRecDepth 100000 in
set_option maxHeartbeats 4000000 in
theorem claims13 (w : World) (a1 a2 s1 s2 y1 y2 : Option Addr) (n1 n2 m1 m2 k1 k2 c1 c2 d1 d2 f1 f2 : Nat) (p : Pl) (src snk cut : List Int) (pv : List PtV) (hwd : WdR w) (hn1 : n1 ≤ 9223372036854775807) (hn2 : n2 ≤ 9223372036854775807)
    (hm1 : m1 ≤ 9223372036854775807) (hm2 : m2 ≤ 9223372036854775807) (hk1 : k1 ≤ 9223372036854775807) (hk2 : k2 ≤ 9223372036854775807)
    (hv : n1 ≤ 70 → n2 ≤ 260 → PlR w w.heap.size (.slice a1 n1 c1) (.slice a2 n2 c2) p ∧ p.ms.length = n1 ∧ p.arcs.length = n2 ∧ ∀ m ∈ p.ms, m.kind.size ≤ 9223372036854775807)
    (hs : m1 ≤ 80 → Sl encI 1 w w.heap.size (.slice s1 m1 d1) src) (ht : m2 ≤ 80 → Sl encI 1 w w.heap.size (.slice s2 m2 d2) snk)
    (hy : PvR w w.heap.size (.slice y1 k1 f1) k1 pv) (hu : k2 ≤ 80 → Sl encI 1 w w.heap.size (.slice y2 k2 f2) cut) :
    Calls Tryz.prog 13 #[.agg #[.slice a1 n1 c1, .slice a2 n2 c2], .agg #[.slice s1 m1 d1, .slice s2 m2 d2], .agg #[.slice y1 k1 f1, .slice y2 k2 f2]] w (Ret (.bool true) w) := by
  obtain ⟨g, hg⟩ : ∃ g, heavyB p n1 n2 [.slice s1 m1 d1, .slice s2 m2 d2, .slice y2 k2 f2] = g := ⟨_, rfl⟩
  have HH := Lib.hid (fun (w1 : World) (hb : Below w.heap.size w w1) (u : Option Addr) (hu : Sl Val1 1 w1 w1.heap.size (.slice u 3 3) [.slice s1 m1 d1, .slice s2 m2 d2, .slice y2 k2 f2]) => heavy17 w1 a1 a2 u n1 n2 3 c1 c2 3 p [.slice s1 m1 d1, .slice s2 m2 d2, .slice y2 k2 f2] hn1 hn2 (fun x y => ⟨(hv x y).1.later hb, (hv x y).2⟩) hu (by
    intro v hv
    simp only [List.mem_cons, List.not_mem_nil, or_false] at hv
    rcases hv with rfl | rfl | rfl
    · exact ⟨_, _, _, rfl, hm1⟩
    · exact ⟨_, _, _, rfl, hm2⟩
    · exact ⟨_, _, _, rfl, hk2⟩))
  rw [hg] at HH
  have HG := Lib.hid hg
  have HWD := Lib.hid hwd
  have HV := Lib.hid hv
  have HLS := Lib.hid hs
  have HLT := Lib.hid ht
  have HLY := Lib.hid hy
  have HLU := Lib.hid hu
  clear hwd hv hs ht hy hu hg
  have HB := Lib.hid ((((Below.refl w.heap.size w).alloc (Nat.le_refl _) (.cells #[.slice a1 n1 c1, .slice a2 n2 c2] 25)).alloc (by simp) (.cells #[.slice s1 m1 d1, .slice s2 m2 d2] 84)).alloc (by simp; omega) (.cells #[.slice y1 k1 f1, .slice y2 k2 f2] 106))
  have HX := Lib.hid (((Box.new w #[.slice a1 n1 c1, .slice a2 n2 c2] 25).alloc (.cells #[.slice s1 m1 d1, .slice s2 m2 d2] 84)).alloc (.cells #[.slice y1 k1 f1, .slice y2 k2 f2] 106))
  have HY := Lib.hid ((Box.newAt (w.alloc (.cells #[.slice a1 n1 c1, .slice a2 n2 c2] 25)) #[.slice s1 m1 d1, .slice s2 m2 d2] 84 (by simp : _ = w.heap.size + 1)).alloc (.cells #[.slice y1 k1 f1, .slice y2 k2 f2] 106))
  have HT := Lib.hid (Box.newAt ((w.alloc (.cells #[.slice a1 n1 c1, .slice a2 n2 c2] 25)).alloc (.cells #[.slice s1 m1 d1, .slice s2 m2 d2] 84)) #[.slice y1 k1 f1, .slice y2 k2 f2] 106 (by simp : _ = w.heap.size + 1 + 1))
  go_enter Tryz.func13, Tryz.ntmps13
  go_wp2_with fail
  refine (awake16 _ (HWD.out.later HB.out)).mono ?_
  rintro e2 w2 ⟨rfl, hb⟩
  have HB2 := Lib.hid (HB.out.trans (hb.mono HB.out.size))
  have HX2 := Lib.hid (HX.out.later hb)
  have HY2 := Lib.hid (HY.out.later hb)
  have HT2 := Lib.hid (HT.out.later hb)
  clear hb
  obtain ⟨x0, x1, xf, xz⟩ := HX2.out.v2
  obtain ⟨y0, y1, yf, yz⟩ := HY2.out.v2
  obtain ⟨t0, t1, tf, tz⟩ := HT2.out.v2
  go_wp2_with fail
  have hb : Below w2.heap.size w2 (w2.alloc (.cells #[.slice s1 m1 d1, .slice s2 m2 d2, .slice y2 k2 f2] 26)) := (Below.refl _ _).alloc (Nat.le_refl _) _
  have HBa := Lib.hid (HB2.out.trans (hb.mono HB2.out.size))
  have HXa := Lib.hid (HX2.out.later hb)
  have HYa := Lib.hid (HY2.out.later hb)
  have HTa := Lib.hid (HT2.out.later hb)
  clear hb x0 x1 xf xz y0 y1 yf yz t0 t1 tf tz
  refine (HH.out _ HBa.out _ (Sl.lit (f := Val1) (sz := 1) (fun _ => rfl) [Value.slice s1 m1 d1, Value.slice s2 m2 d2, Value.slice y2 k2 f2] _ #[Value.slice s1 m1 d1, Value.slice s2 m2 d2, Value.slice y2 k2 f2] 26 3 rfl rfl (by simp))).mono ?_
  rintro e3 w3 ⟨rfl, hb⟩
  have HB3 := Lib.hid (HBa.out.trans (hb.mono HBa.out.size))
  have HX3 := Lib.hid (HXa.out.later hb)
  have HY3 := Lib.hid (HYa.out.later hb)
  have HT3 := Lib.hid (HTa.out.later hb)
  clear hb HBa HXa HYa HTa
  obtain ⟨x0, x1, xf, xz⟩ := HX3.out.v2
  obtain ⟨y0, y1, yf, yz⟩ := HY3.out.v2
  obtain ⟨t0, t1, tf, tz⟩ := HT3.out.v2
  cases g with
  | true =>
    go_wp2_with fail
    refine (awake16 _ (HWD.out.later HB3.out)).mono ?_
    rintro e4 w4 ⟨rfl, hb⟩
    have HB4 := Lib.hid (HB3.out.trans (hb.mono HB3.out.size))
    have HX4 := Lib.hid (HX3.out.later hb)
    have HY4 := Lib.hid (HY3.out.later hb)
    have HT4 := Lib.hid (HT3.out.later hb)
    clear hb x0 x1 xf xz y0 y1 yf yz t0 t1 tf tz HB3 HX3 HY3 HT3
    obtain ⟨x0, x1, xf, xz⟩ := HX4.out.v2
    obtain ⟨y0, y1, yf, yz⟩ := HY4.out.v2
    obtain ⟨t0, t1, tf, tz⟩ := HT4.out.v2
    go_wp2_with fail
    go_ret
    exact ⟨rfl, HB4.out⟩
  | false =>
    by_cases h20 : 20 < k1
    · have d4 : decide ((20 : Int) < (k1 : Int)) = true := decide_eq_true (by omega)
      clear h20
      go_wp2_with fail
      refine (awake16 _ (HWD.out.later HB3.out)).mono ?_
      rintro e5 w5 ⟨rfl, hb⟩
      have HB5 := Lib.hid (HB3.out.trans (hb.mono HB3.out.size))
      have HX5 := Lib.hid (HX3.out.later hb)
      have HY5 := Lib.hid (HY3.out.later hb)
      have HT5 := Lib.hid (HT3.out.later hb)
      clear hb x0 x1 xf xz y0 y1 yf yz t0 t1 tf tz HB3 HX3 HY3 HT3
      obtain ⟨x0, x1, xf, xz⟩ := HX5.out.v2
      obtain ⟨y0, y1, yf, yz⟩ := HY5.out.v2
      obtain ⟨t0, t1, tf, tz⟩ := HT5.out.v2
      go_wp2_with fail
      go_ret
      exact ⟨rfl, HB5.out⟩
    have d4 : decide ((20 : Int) < (k1 : Int)) = false := decide_eq_false (by omega)
    have hk20 : k1 ≤ 20 := by omega
    clear h20
    obtain ⟨q1, q2, q3, _, _⟩ := heavyB_no HG.out
    obtain ⟨hpl, hpm1, hpm2, _⟩ := HV.out q2 q3
    have hls := HLS.out (q1 (Value.slice s1 m1 d1) (by simp))
    have hlt := HLT.out (q1 (Value.slice s2 m2 d2) (by simp))
    have hlu := HLU.out (q1 (Value.slice y2 k2 f2) (by simp))
    obtain ⟨hpv, hpvl, hpf⟩ := HLY.out hk20
    have HPV := Lib.hid hpv
    have HPVL := Lib.hid hpvl
    have HPF := Lib.hid hpf
    have HPL := Lib.hid hpl
    have HS := Lib.hid hls
    have HTT := Lib.hid hlt
    have HU := Lib.hid hlu
    have HPM1 := Lib.hid hpm1
    have HUL := Lib.hid (show cut.length = k2 by obtain ⟨_, _, e, _⟩ := id hlu; injection e with e1 e2 e3; exact e2.symm)
    clear hpv hpvl hpf hpl hls hlt hlu hpm1 hpm2 q1 q2 q3 HV HLS HLT HLU HLY HG HH
    go_wp2_with fail
    clear x0 x1 xf xz y0 y1 yf yz t0 t1 tf tz
    go_loopw [7] (fun i wr => ∃ k : Nat, k ≤ k1 ∧ i = .int .i64 k ∧ Below w3.heap.size w3 wr ∧ ∀ j (h : j < pv.length), j < k → pv[j].n ≤ 80) (fun i _ => k1 - (intOf i).toNat)
    case atStart => exact ⟨0, by omega, rfl, Below.refl _ _, fun j _ h => absurd h (Nat.not_lt_zero _)⟩
    case round =>
      obtain ⟨k, hk, rfl, hbe, hall⟩ := hrel
      have HBE := Lib.hid (HB3.out.trans (hbe.mono HB3.out.size))
      have HXE := Lib.hid (HX3.out.later hbe)
      have HYE := Lib.hid (HY3.out.later hbe)
      have HTE := Lib.hid (HT3.out.later hbe)
      have HBK := Lib.hid hbe
      have HALL := Lib.hid hall
      clear hbe hall
      obtain ⟨x0, x1, xf, xz⟩ := HXE.out.v2
      obtain ⟨y0, y1, yf, yz⟩ := HYE.out.v2
      obtain ⟨t0, t1, tf, tz⟩ := HTE.out.v2
      by_cases hlt : k < k1
      · have hkl : k < pv.length := by rw [HPVL.out]; exact hlt
        obtain ⟨ya, yc, e5, _, hAs⟩ := id HPV.out
        rw [HPVL.out] at e5
        cases e5
        obtain ⟨bs, os, rfl, hbbs, hcs⟩ := hAs (by omega)
        have s0 := ((hcs k hkl).below HBE.out hbbs).c1
        rw [Nat.mul_one] at s0
        have hbsz : bs < wr.heap.size := Nat.lt_of_lt_of_le hbbs HBE.out.size
        have HNX := Lib.hid (fun (h1 : pv[k].n ≤ 80) (j : Nat) (h : j < pv.length) (hj : j < k + 1) => show pv[j].n ≤ 80 from by
          rcases Nat.lt_or_ge j k with h3 | h3
          · exact HALL.out j h h3
          · obtain rfl : j = k := by omega
            exact h1)
        have hfn := (HPF.out _ (List.getElem_mem hkl)).n
        clear hcs hAs
        generalize pv[k] = x at *
        obtain ⟨ax, nx, cx, lx⟩ := x
        dsimp only at s0 HNX hfn
        by_cases h80 : 80 < nx
        · have d5 : decide ((80 : Int) < (nx : Int)) = true := decide_eq_true (by omega)
          clear h80
          go_wp2_with fail
          go_ret
          exact ⟨rfl, HBE.out⟩
        have d5 : decide ((80 : Int) < (nx : Int)) = false := decide_eq_false (by omega)
        have HN2 := Lib.hid (HNX.out (by omega))
        clear h80 HNX
        go_wp2_with fail
        go_roundw
        case rel => exact ⟨k + 1, by omega, by go_num, HBK.out, HN2.out⟩
        case measure => simp [intOf]; omega
      obtain rfl : k1 = k := by omega
      obtain ⟨hpt, hptl, hpt80⟩ := PvR.good ⟨HPV.out, HPVL.out, HPF.out⟩ (fun t ht => by
        obtain ⟨j, hj, rfl⟩ := List.mem_iff_getElem.1 ht
        exact HALL.out j hj (by rw [HPVL.out] at hj; exact hj))
      obtain ⟨LP, hLP⟩ : ∃ L, pv.map PtV.pt = L := ⟨_, rfl⟩
      rw [hLP] at hpt hptl hpt80
      clear hLP
      have hlp20 : LP.length ≤ 20 := by omega
      have C74 := Lib.hid (fun (w1 : World) (hb : Below w.heap.size w w1) => checkDisjoint74 w1 _ _ _ _ _ p src snk LP (HWD.out.later hb) (HPL.out.later hb) (HS.out.later hb) (HTT.out.later hb) (hpt.later hb) hlp20 hpt80)
      have C75 := Lib.hid (fun (w1 : World) (hb : Below w.heap.size w w1) => checkCut75 w1 _ _ _ _ _ p src snk cut (HWD.out.later hb) (HPL.out.later hb) (HS.out.later hb) (HTT.out.later hb) (HU.out.later hb))
      have C19 := Lib.hid (fun (w1 : World) (hb : Below w.heap.size w w1) => ckPlant19 w1 _ _ p (HPL.out.later hb))
      have C63 := Lib.hid (fun (w1 : World) (hb : Below w.heap.size w w1) => checkEnds63 w1 _ _ _ _ p src snk (HPL.out.later hb) (HS.out.later hb) (HTT.out.later hb))
      have C65 := Lib.hid (fun (w1 : World) (hb : Below w.heap.size w w1) => checkDisjoint65 w1 _ _ _ _ _ p src snk LP (HPL.out.later hb) (HS.out.later hb) (HTT.out.later hb) (hpt.later hb) hlp20 hpt80)
      have C66 := Lib.hid (fun (w1 : World) (hb : Below w.heap.size w w1) => fun hok he hin => isCut66 w1 _ _ _ _ _ p src snk cut (HPL.out.later hb) (HS.out.later hb) (HTT.out.later hb) (HU.out.later hb) hok he hin)
      clear hpt hptl hpt80 hlp20 HPV HPF HALL
      have HCB := Lib.hid (show ckPlant p = 0 → OkP p from ckPlant_ok)
      have HEB := Lib.hid (show endsE p src snk = 0 → OkE p src snk from endsE_ok)
      obtain ⟨E1, hE1⟩ : ∃ c, disBE p src snk LP = c := ⟨_, rfl⟩
      obtain ⟨E2, hE2⟩ : ∃ c, cutE p src snk cut = c := ⟨_, rfl⟩
      rw [hE1] at C74
      rw [hE2] at C75
      unfold disBE bothE at hE1
      unfold cutE bothE at hE2
      obtain ⟨ck, hck⟩ : ∃ c, ckPlant p = c := ⟨_, rfl⟩
      obtain ⟨en, hen⟩ : ∃ c, endsE p src snk = c := ⟨_, rfl⟩
      obtain ⟨de, hde⟩ : ∃ c, disE p src snk LP = c := ⟨_, rfl⟩
      rw [hck, hen, hde] at hE1
      rw [hck, hen, HPM1.out] at hE2
      rw [hck] at C19 HCB
      rw [hen] at C63 HEB
      rw [hde] at C65
      clear hck hen hde
      by_cases h1 : ck = 0
      rotate_left
      · have k0 : (ck == 0) = false := beq_eq_false_iff_ne.2 h1
        obtain rfl : ck = E1 := by rw [if_pos h1, if_pos h1] at hE1; exact hE1
        obtain rfl : ck = E2 := by rw [if_pos h1, if_pos h1] at hE2; exact hE2
        clear h1 hE1 hE2 C63 C65 C66 HCB HEB
        go_wp2_with fail
        refine (C74.out _ HBE.out).mono ?_
        rintro e6 w6 ⟨rfl, hb⟩
        have HB6 := Lib.hid (HBE.out.trans (hb.mono HBE.out.size))
        have HX6 := Lib.hid (HXE.out.later hb)
        have HY6 := Lib.hid (HYE.out.later hb)
        have HT6 := Lib.hid (HTE.out.later hb)
        clear hb x0 x1 xf xz y0 y1 yf yz t0 t1 tf tz HBE HXE HYE HTE
        obtain ⟨x0, x1, xf, xz⟩ := HX6.out.v2
        obtain ⟨y0, y1, yf, yz⟩ := HY6.out.v2
        obtain ⟨t0, t1, tf, tz⟩ := HT6.out.v2
        go_wp2_with fail
        refine (C75.out _ HB6.out).mono ?_
        rintro e7 w7 ⟨rfl, hb⟩
        have HB7 := Lib.hid (HB6.out.trans (hb.mono HB6.out.size))
        have HX7 := Lib.hid (HX6.out.later hb)
        have HY7 := Lib.hid (HY6.out.later hb)
        have HT7 := Lib.hid (HT6.out.later hb)
        clear hb x0 x1 xf xz y0 y1 yf yz t0 t1 tf tz HB6 HX6 HY6 HT6
        obtain ⟨x0, x1, xf, xz⟩ := HX7.out.v2
        obtain ⟨y0, y1, yf, yz⟩ := HY7.out.v2
        obtain ⟨t0, t1, tf, tz⟩ := HT7.out.v2
        go_wp2_with fail
        refine (C19.out _ HB7.out).mono ?_
        rintro e8 w8 ⟨rfl, hb⟩
        have HB8 := Lib.hid (HB7.out.trans (hb.mono HB7.out.size))
        have HX8 := Lib.hid (HX7.out.later hb)
        have HY8 := Lib.hid (HY7.out.later hb)
        have HT8 := Lib.hid (HT7.out.later hb)
        clear hb x0 x1 xf xz y0 y1 yf yz t0 t1 tf tz HB7 HX7 HY7 HT7
        obtain ⟨x0, x1, xf, xz⟩ := HX8.out.v2
        obtain ⟨y0, y1, yf, yz⟩ := HY8.out.v2
        obtain ⟨t0, t1, tf, tz⟩ := HT8.out.v2
        go_wp2_with fail
        go_ret
        exact ⟨rfl, HB8.out⟩
      subst h1
      by_cases h1 : en = 0
      rotate_left
      · have k0 : (en == 0) = false := beq_eq_false_iff_ne.2 h1
        obtain rfl : en = E1 := by simpa [h1] using hE1
        obtain rfl : en = E2 := by simpa [h1] using hE2
        clear h1 hE1 hE2 C65 C66 HCB HEB
        go_wp2_with fail
        refine (C74.out _ HBE.out).mono ?_
        rintro e9 w9 ⟨rfl, hb⟩
        have HB9 := Lib.hid (HBE.out.trans (hb.mono HBE.out.size))
        have HX9 := Lib.hid (HXE.out.later hb)
        have HY9 := Lib.hid (HYE.out.later hb)
        have HT9 := Lib.hid (HTE.out.later hb)
        clear hb x0 x1 xf xz y0 y1 yf yz t0 t1 tf tz HBE HXE HYE HTE
        obtain ⟨x0, x1, xf, xz⟩ := HX9.out.v2
        obtain ⟨y0, y1, yf, yz⟩ := HY9.out.v2
        obtain ⟨t0, t1, tf, tz⟩ := HT9.out.v2
        go_wp2_with fail
        refine (C75.out _ HB9.out).mono ?_
        rintro e10 w10 ⟨rfl, hb⟩
        have HB10 := Lib.hid (HB9.out.trans (hb.mono HB9.out.size))
        have HX10 := Lib.hid (HX9.out.later hb)
        have HY10 := Lib.hid (HY9.out.later hb)
        have HT10 := Lib.hid (HT9.out.later hb)
        clear hb x0 x1 xf xz y0 y1 yf yz t0 t1 tf tz HB9 HX9 HY9 HT9
        obtain ⟨x0, x1, xf, xz⟩ := HX10.out.v2
        obtain ⟨y0, y1, yf, yz⟩ := HY10.out.v2
        obtain ⟨t0, t1, tf, tz⟩ := HT10.out.v2
        go_wp2_with fail
        refine (C19.out _ HB10.out).mono ?_
        rintro e11 w11 ⟨rfl, hb⟩
        have HB11 := Lib.hid (HB10.out.trans (hb.mono HB10.out.size))
        have HX11 := Lib.hid (HX10.out.later hb)
        have HY11 := Lib.hid (HY10.out.later hb)
        have HT11 := Lib.hid (HT10.out.later hb)
        clear hb x0 x1 xf xz y0 y1 yf yz t0 t1 tf tz HB10 HX10 HY10 HT10
        obtain ⟨x0, x1, xf, xz⟩ := HX11.out.v2
        obtain ⟨y0, y1, yf, yz⟩ := HY11.out.v2
        obtain ⟨t0, t1, tf, tz⟩ := HT11.out.v2
        go_wp2_with fail
        refine (C63.out _ HB11.out).mono ?_
        rintro e12 w12 ⟨rfl, hb⟩
        have HB12 := Lib.hid (HB11.out.trans (hb.mono HB11.out.size))
        have HX12 := Lib.hid (HX11.out.later hb)
        have HY12 := Lib.hid (HY11.out.later hb)
        have HT12 := Lib.hid (HT11.out.later hb)
        clear hb x0 x1 xf xz y0 y1 yf yz t0 t1 tf tz HB11 HX11 HY11 HT11
        obtain ⟨x0, x1, xf, xz⟩ := HX12.out.v2
        obtain ⟨y0, y1, yf, yz⟩ := HY12.out.v2
        obtain ⟨t0, t1, tf, tz⟩ := HT12.out.v2
        go_wp2_with fail
        go_ret
        exact ⟨rfl, HB12.out⟩
      subst h1
      obtain rfl : de = E1 := by simpa using hE1
      have hE2 : (if unkE n1 cut ≠ 0 then unkE n1 cut else if cutB p src snk cut = true then 18 else 0) = E2 := by simpa using hE2
      have HOK := Lib.hid (HCB.out rfl)
      have HOE := Lib.hid (HEB.out rfl)
      have C66 := Lib.hid (fun (w1 : World) (hb : Below w.heap.size w w1) => C66.out w1 hb HOK.out HOE.out (fun x hx => by rcases hx with h | h; exact HOE.out.in1 x h; exact HOE.out.in2 x h))
      obtain ⟨cb, hcb⟩ : ∃ c, cutB p src snk cut = c := ⟨_, rfl⟩
      rw [hcb] at C66 hE2
      clear hcb hE1 HCB HEB
      have hE2 : (E2 = 10 ∧ ∃ x ∈ cut, inN n1 x = false) ∨ ((∀ x ∈ cut, inN n1 x = true) ∧ E2 = if cb = true then 18 else 0) := by
        rcases unk_cases n1 cut with ⟨h1, h2⟩ | ⟨h1, h2⟩
        · refine .inr ⟨h2, ?_⟩
          rw [h1, if_neg (by simp)] at hE2
          exact hE2.symm
        · refine .inl ⟨?_, h2⟩
          rw [h1, if_pos (by decide)] at hE2
          exact hE2.symm
      have HE2 := Lib.hid hE2
      clear hE2
      go_wp2_with fail
      refine (C74.out _ HBE.out).mono ?_
      rintro e13 w13 ⟨rfl, hb⟩
      have HB13 := Lib.hid (HBE.out.trans (hb.mono HBE.out.size))
      have HX13 := Lib.hid (HXE.out.later hb)
      have HY13 := Lib.hid (HYE.out.later hb)
      have HT13 := Lib.hid (HTE.out.later hb)
      clear hb x0 x1 xf xz y0 y1 yf yz t0 t1 tf tz HBE HXE HYE HTE
      obtain ⟨x0, x1, xf, xz⟩ := HX13.out.v2
      obtain ⟨y0, y1, yf, yz⟩ := HY13.out.v2
      obtain ⟨t0, t1, tf, tz⟩ := HT13.out.v2
      go_wp2_with fail
      refine (C75.out _ HB13.out).mono ?_
      rintro e14 w14 ⟨rfl, hb⟩
      have HB14 := Lib.hid (HB13.out.trans (hb.mono HB13.out.size))
      have HX14 := Lib.hid (HX13.out.later hb)
      have HY14 := Lib.hid (HY13.out.later hb)
      have HT14 := Lib.hid (HT13.out.later hb)
      clear hb x0 x1 xf xz y0 y1 yf yz t0 t1 tf tz HB13 HX13 HY13 HT13
      obtain ⟨x0, x1, xf, xz⟩ := HX14.out.v2
      obtain ⟨y0, y1, yf, yz⟩ := HY14.out.v2
      obtain ⟨t0, t1, tf, tz⟩ := HT14.out.v2
      go_wp2_with fail
      refine (C19.out _ HB14.out).mono ?_
      rintro e15 w15 ⟨rfl, hb⟩
      have HB15 := Lib.hid (HB14.out.trans (hb.mono HB14.out.size))
      have HX15 := Lib.hid (HX14.out.later hb)
      have HY15 := Lib.hid (HY14.out.later hb)
      have HT15 := Lib.hid (HT14.out.later hb)
      clear hb x0 x1 xf xz y0 y1 yf yz t0 t1 tf tz HB14 HX14 HY14 HT14
      obtain ⟨x0, x1, xf, xz⟩ := HX15.out.v2
      obtain ⟨y0, y1, yf, yz⟩ := HY15.out.v2
      obtain ⟨t0, t1, tf, tz⟩ := HT15.out.v2
      go_wp2_with fail
      refine (C63.out _ HB15.out).mono ?_
      rintro e16 w16 ⟨rfl, hb⟩
      have HB16 := Lib.hid (HB15.out.trans (hb.mono HB15.out.size))
      have HX16 := Lib.hid (HX15.out.later hb)
      have HY16 := Lib.hid (HY15.out.later hb)
      have HT16 := Lib.hid (HT15.out.later hb)
      clear hb x0 x1 xf xz y0 y1 yf yz t0 t1 tf tz HB15 HX15 HY15 HT15
      obtain ⟨x0, x1, xf, xz⟩ := HX16.out.v2
      obtain ⟨y0, y1, yf, yz⟩ := HY16.out.v2
      obtain ⟨t0, t1, tf, tz⟩ := HT16.out.v2
      go_wp2_with fail
      refine (C65.out _ HB16.out).mono ?_
      rintro e17 w17 ⟨rfl, hb⟩
      have HB17 := Lib.hid (HB16.out.trans (hb.mono HB16.out.size))
      have HX17 := Lib.hid (HX16.out.later hb)
      have HY17 := Lib.hid (HY16.out.later hb)
      have HT17 := Lib.hid (HT16.out.later hb)
      clear hb x0 x1 xf xz y0 y1 yf yz t0 t1 tf tz HB16 HX16 HY16 HT16
      obtain ⟨x0, x1, xf, xz⟩ := HX17.out.v2
      obtain ⟨y0, y1, yf, yz⟩ := HY17.out.v2
      obtain ⟨t0, t1, tf, tz⟩ := HT17.out.v2
      go_wp2_with fail
      clear x0 x1 xf xz y0 y1 yf yz t0 t1 tf tz
      generalize wr = U at *
      go_loopw [11] (fun i wr => ∃ k : Nat, k ≤ k2 ∧ i = .int .i64 k ∧ Below w17.heap.size w17 wr ∧ ∀ j (h : j < cut.length), j < k → inN n1 cut[j] = true) (fun i _ => k2 - (intOf i).toNat)
      case atStart => exact ⟨0, by omega, rfl, Below.refl _ _, fun j _ h => absurd h (Nat.not_lt_zero _)⟩
      case round =>
        obtain ⟨k, hk, rfl, hbe, hall⟩ := hrel
        have HBG := Lib.hid (HB17.out.trans (hbe.mono HB17.out.size))
        have HXG := Lib.hid (HX17.out.later hbe)
        have HYG := Lib.hid (HY17.out.later hbe)
        have HTG := Lib.hid (HT17.out.later hbe)
        have HBJ := Lib.hid hbe
        have HALL := Lib.hid hall
        clear hbe hall
        obtain ⟨x0, x1, xf, xz⟩ := HXG.out.v2
        obtain ⟨y0, y1, yf, yz⟩ := HYG.out.v2
        obtain ⟨t0, t1, tf, tz⟩ := HTG.out.v2
        by_cases hlt : k < k2
        rotate_left
        · obtain rfl : k2 = k := by omega
          obtain ⟨_, rfl⟩ := HE2.out.resolve_left (fun ⟨_, x, hx, h⟩ => by
            obtain ⟨j, hj, rfl⟩ := List.mem_iff_getElem.1 hx
            rw [HALL.out j hj (by rw [HUL.out] at hj; exact hj)] at h
            cases h)
          cases cb with
          | true =>
            go_wp2_with fail
            refine (C66.out _ HBG.out).mono ?_
            rintro e18 w18 ⟨rfl, hb⟩
            have HB18 := Lib.hid (HBG.out.trans (hb.mono HBG.out.size))
            have HX18 := Lib.hid (HXG.out.later hb)
            have HY18 := Lib.hid (HYG.out.later hb)
            have HT18 := Lib.hid (HTG.out.later hb)
            clear hb x0 x1 xf xz y0 y1 yf yz t0 t1 tf tz HBG HXG HYG HTG
            obtain ⟨x0, x1, xf, xz⟩ := HX18.out.v2
            obtain ⟨y0, y1, yf, yz⟩ := HY18.out.v2
            obtain ⟨t0, t1, tf, tz⟩ := HT18.out.v2
            go_wp2_with fail
            go_ret
            exact ⟨rfl, HB18.out⟩
          | false =>
            go_wp2_with fail
            refine (C66.out _ HBG.out).mono ?_
            rintro e19 w19 ⟨rfl, hb⟩
            have HB19 := Lib.hid (HBG.out.trans (hb.mono HBG.out.size))
            have HX19 := Lib.hid (HXG.out.later hb)
            have HY19 := Lib.hid (HYG.out.later hb)
            have HT19 := Lib.hid (HTG.out.later hb)
            clear hb x0 x1 xf xz y0 y1 yf yz t0 t1 tf tz HBG HXG HYG HTG
            obtain ⟨x0, x1, xf, xz⟩ := HX19.out.v2
            obtain ⟨y0, y1, yf, yz⟩ := HY19.out.v2
            obtain ⟨t0, t1, tf, tz⟩ := HT19.out.v2
            go_wp2_with fail
            go_ret
            exact ⟨rfl, HB19.out⟩
        have hkl : k < cut.length := by rw [HUL.out]; exact hlt
        obtain ⟨ya, yc, e5, _, hAs⟩ := id HU.out
        rw [HUL.out] at e5
        cases e5
        obtain ⟨bu, ou, rfl, hbbu, hcu⟩ := hAs (by omega)
        have s0 := ((hcu k hkl).below HBG.out hbbu).c1
        rw [Nat.mul_one] at s0
        have hbuz : bu < wr.heap.size := Nat.lt_of_lt_of_le hbbu HBG.out.size
        have HNX := Lib.hid (fun (h1 : inN n1 cut[k] = true) (j : Nat) (h : j < cut.length) (hj : j < k + 1) => show inN n1 cut[j] = true from by
          rcases Nat.lt_or_ge j k with h3 | h3
          · exact HALL.out j h h3
          · obtain rfl : j = k := by omega
            exact h1)
        have HNO := Lib.hid (fun (h1 : inN n1 cut[k] = false) => show E2 = 10 from by
          rcases HE2.out with ⟨h, _⟩ | ⟨h, _⟩
          · exact h
          · rw [h _ (List.getElem_mem hkl)] at h1; cases h1)
        clear hcu hAs
        generalize cut[k] = x at *
        by_cases hx0 : x < 0
        · have d5 : decide (x < 0) = true := decide_eq_true hx0
          obtain rfl := HNO.out (by unfold inN; simp; omega)
          clear hx0
          go_wp2_with fail
          go_quiet (fail)
          go_wp2_with fail
          go_ret
          exact ⟨rfl, HBG.out.trans ((below_drewN (Below.refl _ _) nq).mono HBG.out.size)⟩
        have d5 : decide (x < 0) = false := decide_eq_false hx0
        by_cases hx1 : x < n1
        rotate_left
        · have d6 : decide ((n1 : Int) ≤ x) = true := decide_eq_true (by omega)
          obtain rfl := HNO.out (by unfold inN; simp; omega)
          clear hx0 hx1
          go_wp2_with fail
          go_quiet (fail)
          go_wp2_with fail
          go_ret
          exact ⟨rfl, HBG.out.trans ((below_drewN (Below.refl _ _) nq).mono HBG.out.size)⟩
        have d6 : decide ((n1 : Int) ≤ x) = false := decide_eq_false (by omega)
        have HN2 := Lib.hid (HNX.out (by unfold inN; simp; omega))
        clear HNX HNO hx0 hx1
        go_wp2_with fail
        go_quiet (fail)
        go_wp2_with fail
        go_roundw
        case rel => exact ⟨k + 1, by omega, by go_num, HBJ.out.trans ((below_drewN (Below.refl _ _) nq).mono HBJ.out.size), HN2.out⟩
        case measure => simp [intOf]; omega
end Go.Proofs.YtahpdkkpnkhnhaaGreatDoor
