/- Lemmas on the way to the law PathRoutes (part 3): Pd Jc -/
import Derived.Test.YtahpdkkpnkhnhaaGreatDoorPathRoutesP02
import Derived.Test.YtahpdkkpnkhnhaaGreatDoorLib29
import Derived.Test.YtahpdkkpnkhnhaaGreatDoorPathRoutesP01
set_option linter.unusedVariables false
set_option linter.unusedSimpArgs false

/- Walks: the law PathRoutes. -/
namespace Go.Proofs.YtahpdkkpnkhnhaaGreatDoor
open Go Go.Proofs Go.RowKit Go.Shelf
theorem Box.v3 {w : World} {b : Nat} {e : TypeId} {x y z : Value} (h : Box w b e [x, y, z]) : w.cell? ⟨b, 0, none⟩ = some x ∧ w.cell? ⟨b, 1, none⟩ = some y ∧ w.cell? ⟨b, 2, none⟩ = some z ∧ (∀ o, w.frozen? ⟨b, o, none⟩ = false) ∧ b < w.heap.size :=
  ⟨h.cell 0, h.cell 1, h.cell 2, h.frozen, h.lt⟩
theorem RtPost.sl {w : World} {L : List Int} {c : Int} {e : Ending} {w' : World} (h : RtPost w L c e w') (hl : L.length ≤ 1000000000) : ∃ v, e = .returned (.tuple #[v, .int .i64 c]) ∧ Sl encI 1 w' w'.heap.size v L ∧ Below w.heap.size w w' := by
  obtain ⟨v, rfl, ho, hb⟩ := h
  exact ⟨v, rfl, ho.toSl encI_len hl, hb⟩
/-- What Route says, in the words of the law. -/
def RouteS (p : Pl) (bl : List Int) (fr to : Int) (L : List Int) (c : Int) : Prop :=
  (ckPlant p ≠ 0 ∧ L = [] ∧ c = ckPlant p) ∨ (ckPlant p = 0 ∧ routeE p fr to bl ≠ 0 ∧ L = [] ∧ c = routeE p fr to bl) ∨
    (ckPlant p = 0 ∧ routeE p fr to bl = 0 ∧ inN p.ms.length fr = true ∧ inN p.ms.length to = true ∧ ((c = 7 ∧ L = [] ∧ ∀ v, ShR p bl fr to v → v = -1) ∨ (c = 0 ∧ pathE p L = 0 ∧ 2 ≤ L.length ∧ L.length ≤ 64 ∧ L.getD 0 0 = fr ∧ L.getD (L.length - 1) 0 = to ∧ (∀ y ∈ L, inN p.ms.length y = true ∧ bl.contains y = false) ∧ ∀ v, ShR p bl fr to v → 0 ≤ v ∧ v = tSum p L)))
theorem route_s (p : Pl) (bl : List Int) (fr to : Int) : ∃ L c, RtOut p bl fr to L c ∧ RouteS p bl fr to L c := by
  by_cases hck : ckPlant p = 0
  rotate_left
  · exact ⟨[], ckPlant p, .inl ⟨hck, rfl, rfl⟩, .inl ⟨hck, rfl, rfl⟩⟩
  by_cases hu : unkE p.ms.length (fr :: to :: bl) = 0
  rotate_left
  · refine ⟨[], _, .inr ⟨hck, .inl ⟨hu, rfl, rfl⟩⟩, .inr (.inl ⟨hck, ?_, rfl, ?_⟩)⟩
    · rw [routeE_eq]; exact hu
    · rw [routeE_eq]
  obtain ⟨L, c, h1, h2⟩ := rt_spec hck hu
  have hok := ckPlant_ok hck
  have hin := unk_in18 hu
  have hi : ∀ x : Int, x ∈ fr :: to :: bl → inN p.ms.length x = true := fun x hx => by
    have := hin x hx
    unfold inN; simp only [Bool.and_eq_true, decide_eq_true_eq]; exact this
  refine ⟨L, c, h1, .inr (.inr ⟨hck, by rw [routeE_eq]; exact hu, hi fr (by simp), hi to (by simp), ?_⟩)⟩
  rcases h2 with ⟨rfl, rfl, h3⟩ | ⟨rfl, h3, t, hF, hp, hb, hmin⟩
  · refine .inl ⟨rfl, rfl, fun v hv => ?_⟩
    cases hbad : badR p bl fr to with
    | true => exact hv.1 hbad
    | false =>
      rcases hv.2 hbad with h | ⟨_, t, h, _⟩
      · exact h.1
      · rcases h3 with h3 | h3
        · rw [hbad] at h3; cases h3
        · exact absurd h (h3 t)
  · have hins : ∀ y ∈ L, inN p.ms.length y = true := fun y hy => by
      obtain ⟨k, hk, rfl⟩ := mem_getD hy
      by_cases h0 : k = 0
      · subst h0; rw [hF.hd]; exact hi fr (by simp)
      · exact (hok.ins _ (hF.arcs k (by omega) hk).1).2.1
    have hpe : pathE p L = 0 := by
      rw [pathE_in (by
        rw [List.any_eq_false]
        intro x hx
        rw [hins x hx]; simp), if_pos hp]
    obtain ⟨p1, _, _, p4, _⟩ := (pathB_iff p L).1 hp
    have hlen : L.length ≤ 64 := by
      have h1 : (L.map Int.toNat).Nodup := by
        rw [List.nodup_iff_pairwise_ne, List.pairwise_map]
        refine List.Pairwise.imp_of_mem ?_ (List.nodup_iff_pairwise_ne.1 p4)
        intro a b ha hb hab e
        obtain ⟨x, rfl, _⟩ := inN_nat (hins a ha)
        obtain ⟨y, rfl, _⟩ := inN_nat (hins b hb)
        exact hab (by omega)
      have h2 : (L.map Int.toNat).length ≤ (List.range p.ms.length).length := h1.length_le_of_subset fun x hx => by
        obtain ⟨y, hy, rfl⟩ := List.mem_map.1 hx
        obtain ⟨z, rfl, hz⟩ := inN_nat (hins y hy)
        exact List.mem_range.2 (by omega)
      have := hok.le
      simp at h2; omega
    refine .inr ⟨rfl, hpe, p1, hlen, hF.hd, hF.last, fun y hy => ⟨hins y hy, ?_⟩, fun v hv => ?_⟩
    · have := hb y hy
      simp [this]
    · rcases hv.2 h3 with ⟨_, h4⟩ | ⟨h4, t', h5, h6, h7⟩
      · exact absurd hF.way (h4 t)
      · have h8 := hmin t' h5
        have h9 := h7 t hF.way
        have h10 := hF.sum
        exact ⟨h4, by omega⟩
set_option maxRecDepth 100000 in
set_option maxHeartbeats 4000000 in
theorem routes3 (w : World) (a1 a2 a3 : Option Addr) (n1 n2 n3 c1 c2 c3 : Nat) (fr to : Int) (p : Pl) (bl : List Int) (hwd : WdR w) (hn1 : n1 ≤ 9223372036854775807) (hn2 : n2 ≤ 9223372036854775807) (hn3 : n3 ≤ 9223372036854775807)
    (hv : n1 ≤ 70 → n2 ≤ 260 → PlR w w.heap.size (.slice a1 n1 c1) (.slice a2 n2 c2) p ∧ p.ms.length = n1 ∧ p.arcs.length = n2 ∧ ∀ m ∈ p.ms, m.kind.size ≤ 9223372036854775807)
    (hl : n3 ≤ 80 → Sl encI 1 w w.heap.size (.slice a3 n3 c3) bl) :
    Calls Tryz.prog 3 #[.agg #[.slice a1 n1 c1, .slice a2 n2 c2], .agg #[.int .i64 fr, .int .i64 to, .slice a3 n3 c3]] w (Ret (.bool true) w) := by
  obtain ⟨g, hg⟩ : ∃ g, heavyB p n1 n2 [.slice a3 n3 c3] = g := ⟨_, rfl⟩
  have HH := Lib.hid (fun (w1 : World) (hb : Below w.heap.size w w1) (u : Option Addr) (hu : Sl Val1 1 w1 w1.heap.size (.slice u 1 1) [.slice a3 n3 c3]) => heavy17 w1 a1 a2 u n1 n2 1 c1 c2 1 p [.slice a3 n3 c3] hn1 hn2 (fun x y => ⟨(hv x y).1.later hb, (hv x y).2⟩) hu (by
    intro v hv
    rw [List.mem_singleton] at hv
    subst hv
    exact ⟨_, _, _, rfl, hn3⟩))
  rw [hg] at HH
  have HG := Lib.hid hg
  have HWD := Lib.hid hwd
  have HV := Lib.hid hv
  have HLL := Lib.hid hl
  clear hwd hv hl hg
  have HB := Lib.hid (((Below.refl w.heap.size w).alloc (Nat.le_refl _) (.cells #[.slice a1 n1 c1, .slice a2 n2 c2] 25)).alloc (by simp) (.cells #[.int .i64 fr, .int .i64 to, .slice a3 n3 c3] 28))
  have HX := Lib.hid ((Box.new w #[.slice a1 n1 c1, .slice a2 n2 c2] 25).alloc (.cells #[.int .i64 fr, .int .i64 to, .slice a3 n3 c3] 28))
  have HY := Lib.hid (Box.newAt (w.alloc (.cells #[.slice a1 n1 c1, .slice a2 n2 c2] 25)) #[.int .i64 fr, .int .i64 to, .slice a3 n3 c3] 28 (by simp : _ = w.heap.size + 1))
  go_enter Tryz.func3, Tryz.ntmps3
  go_wp2_with fail
  refine (awake16 _ (HWD.out.later HB.out)).mono ?_
  rintro e2 w2 ⟨rfl, hb⟩
  have HB2 := Lib.hid (HB.out.trans (hb.mono HB.out.size))
  have HX2 := Lib.hid (HX.out.later hb)
  have HY2 := Lib.hid (HY.out.later hb)
  clear hb
  obtain ⟨x0, x1, xf, xz⟩ := HX2.out.v2
  obtain ⟨y0, y1, y2, yf, yz⟩ := HY2.out.v3
  go_wp2_with fail
  have hb : Below w2.heap.size w2 (w2.alloc (.cells #[.slice a3 n3 c3] 26)) := (Below.refl _ _).alloc (Nat.le_refl _) _
  have HBa := Lib.hid (HB2.out.trans (hb.mono HB2.out.size))
  have HXa := Lib.hid (HX2.out.later hb)
  have HYa := Lib.hid (HY2.out.later hb)
  clear hb x0 x1 xf xz y0 y1 y2 yf yz
  refine (HH.out _ HBa.out _ (Sl.one rfl)).mono ?_
  rintro e3 w3 ⟨rfl, hb⟩
  have HB3 := Lib.hid (HBa.out.trans (hb.mono HBa.out.size))
  have HX3 := Lib.hid (HXa.out.later hb)
  have HY3 := Lib.hid (HYa.out.later hb)
  clear hb HBa HXa HYa
  obtain ⟨x0, x1, xf, xz⟩ := HX3.out.v2
  obtain ⟨y0, y1, y2, yf, yz⟩ := HY3.out.v3
  cases g with
  | true =>
    go_wp2_with fail
    refine (awake16 _ (HWD.out.later HB3.out)).mono ?_
    rintro e4 w4 ⟨rfl, hb⟩
    have HB4 := Lib.hid (HB3.out.trans (hb.mono HB3.out.size))
    have HX4 := Lib.hid (HX3.out.later hb)
    have HY4 := Lib.hid (HY3.out.later hb)
    clear hb x0 x1 xf xz y0 y1 y2 yf yz HB3 HX3 HY3
    obtain ⟨x0, x1, xf, xz⟩ := HX4.out.v2
    obtain ⟨y0, y1, y2, yf, yz⟩ := HY4.out.v3
    go_wp2_with fail
    go_ret
    exact ⟨rfl, HB4.out⟩
  | false =>
    obtain ⟨q1, q2, q3, _, _⟩ := heavyB_no HG.out
    obtain ⟨hpl, hm1, hm2, _⟩ := HV.out q2 q3
    have hsl := HLL.out (q1 _ (List.mem_singleton.2 rfl))
    have hbn : bl.length ≤ 80 := by obtain ⟨_, _, e, _⟩ := id hsl; have := q1 _ (List.mem_singleton.2 rfl); cases e; exact this
    have C18 := Lib.hid (fun (w1 : World) (hb : Below w.heap.size w w1) => fun (L : List Int) (c : Int) (h : RtOut p bl fr to L c) => route18 w1 _ _ _ p bl fr to (HWD.out.later hb) (hpl.later hb) (hsl.later hb) (by omega) L c h)
    have C19 := Lib.hid (fun (w1 : World) (hb : Below w.heap.size w w1) => ckPlant19 w1 _ _ p (hpl.later hb))
    have C20 := Lib.hid (fun (w1 : World) (hb : Below w.heap.size w w1) => checkRoute20 w1 _ _ _ p fr to bl (hpl.later hb) (hsl.later hb))
    have C21 := Lib.hid (fun (w1 : World) (hb : Below w.heap.size w w1) => fun hok hf ht => shortest21 w1 _ _ _ p bl fr to (hpl.later hb) (hsl.later hb) hok hf ht)
    have C22 := Lib.hid (fun (w1 : World) (hb : Below w.heap.size w w1) => fun (v : Value) (L : List Int) (hs : Sl encI 1 w1 w1.heap.size v L) => checkPath22 w1 _ _ v p L (hpl.later hb) hs)
    have C23 := Lib.hid (fun (w1 : World) (hb : Below w.heap.size w w1) => fun (v : Value) (L : List Int) (hs : Sl encI 1 w1 w1.heap.size v L) hin hok => time23 w1 _ _ v p L (hpl.later hb) hs hin hok)
    have C24 := Lib.hid (fun (w1 : World) (hb : Below w.heap.size w w1) => fun x => in24 _ bl x w1 (hsl.later hb))
    clear hpl hsl hm1 hm2 q1 q2 q3 hbn
    obtain ⟨L, c, hro, hrs⟩ := route_s p bl fr to
    have HRO := Lib.hid hro
    have HOK := Lib.hid (fun h : ckPlant p = 0 => ckPlant_ok h)
    clear hro
    unfold RouteS at hrs
    obtain ⟨ck, hck⟩ : ∃ c, ckPlant p = c := ⟨_, rfl⟩
    obtain ⟨re, hre⟩ : ∃ c, routeE p fr to bl = c := ⟨_, rfl⟩
    rw [hck, hre] at hrs
    rw [hck] at C19 HOK
    rw [hre] at C20
    clear hck hre
    rcases hrs with ⟨h1, rfl, rfl⟩ | ⟨rfl, h1, rfl, rfl⟩ | ⟨rfl, rfl, hif, hit, hrs⟩
    · have k0 : (c == 0) = false := beq_eq_false_iff_ne.2 h1
      have k1 : (c != 0) = true := by simpa using h1
      clear h1 C20 C21 C22 C23 C24
      go_wp2_with fail
      refine (C18.out _ HB3.out _ _ HRO.out).mono ?_
      intro e5 w5 hh
      obtain ⟨v5, rfl, hs5, hb⟩ := hh.sl (by simp)
      obtain ⟨a5, c5, rfl, _, _⟩ := id hs5
      simp only [List.length_nil]
      clear hs5
      clear hh
      have HB5 := Lib.hid (HB3.out.trans (hb.mono HB3.out.size))
      have HX5 := Lib.hid (HX3.out.later hb)
      have HY5 := Lib.hid (HY3.out.later hb)
      clear hb x0 x1 xf xz y0 y1 y2 yf yz HB3 HX3 HY3
      obtain ⟨x0, x1, xf, xz⟩ := HX5.out.v2
      obtain ⟨y0, y1, y2, yf, yz⟩ := HY5.out.v3
      go_wp2_with fail
      refine (C19.out _ HB5.out).mono ?_
      rintro e6 w6 ⟨rfl, hb⟩
      have HB6 := Lib.hid (HB5.out.trans (hb.mono HB5.out.size))
      have HX6 := Lib.hid (HX5.out.later hb)
      have HY6 := Lib.hid (HY5.out.later hb)
      clear hb x0 x1 xf xz y0 y1 y2 yf yz HB5 HX5 HY5
      obtain ⟨x0, x1, xf, xz⟩ := HX6.out.v2
      obtain ⟨y0, y1, y2, yf, yz⟩ := HY6.out.v3
      go_wp2_with fail
      go_ret
      exact ⟨rfl, HB6.out⟩
    · have k0 : (c == 0) = false := beq_eq_false_iff_ne.2 h1
      have k1 : (c != 0) = true := by simpa using h1
      clear h1 C21 C22 C23 C24
      go_wp2_with fail
      refine (C18.out _ HB3.out _ _ HRO.out).mono ?_
      intro e7 w7 hh
      obtain ⟨v5, rfl, hs5, hb⟩ := hh.sl (by simp)
      obtain ⟨a5, c5, rfl, _, _⟩ := id hs5
      simp only [List.length_nil]
      clear hs5
      clear hh
      have HB7 := Lib.hid (HB3.out.trans (hb.mono HB3.out.size))
      have HX7 := Lib.hid (HX3.out.later hb)
      have HY7 := Lib.hid (HY3.out.later hb)
      clear hb x0 x1 xf xz y0 y1 y2 yf yz HB3 HX3 HY3
      obtain ⟨x0, x1, xf, xz⟩ := HX7.out.v2
      obtain ⟨y0, y1, y2, yf, yz⟩ := HY7.out.v3
      go_wp2_with fail
      refine (C19.out _ HB7.out).mono ?_
      rintro e8 w8 ⟨rfl, hb⟩
      have HB8 := Lib.hid (HB7.out.trans (hb.mono HB7.out.size))
      have HX8 := Lib.hid (HX7.out.later hb)
      have HY8 := Lib.hid (HY7.out.later hb)
      clear hb x0 x1 xf xz y0 y1 y2 yf yz HB7 HX7 HY7
      obtain ⟨x0, x1, xf, xz⟩ := HX8.out.v2
      obtain ⟨y0, y1, y2, yf, yz⟩ := HY8.out.v3
      go_wp2_with fail
      refine (C20.out _ HB8.out).mono ?_
      rintro e9 w9 ⟨rfl, hb⟩
      have HB9 := Lib.hid (HB8.out.trans (hb.mono HB8.out.size))
      have HX9 := Lib.hid (HX8.out.later hb)
      have HY9 := Lib.hid (HY8.out.later hb)
      clear hb x0 x1 xf xz y0 y1 y2 yf yz HB8 HX8 HY8
      obtain ⟨x0, x1, xf, xz⟩ := HX9.out.v2
      obtain ⟨y0, y1, y2, yf, yz⟩ := HY9.out.v3
      go_wp2_with fail
      go_ret
      exact ⟨rfl, HB9.out⟩
    have HOKP := Lib.hid (HOK.out rfl)
    have C21 := Lib.hid (fun (w1 : World) (hb : Below w.heap.size w w1) => C21.out w1 hb HOKP.out hif hit)
    clear hif hit HOK
    rcases hrs with ⟨rfl, rfl, hv⟩ | ⟨rfl, hpe, h2, h64, hd0, hdl, hall, hv⟩
    · have HV7 := Lib.hid hv
      clear hv C22 C23 C24
      go_wp2_with fail
      refine (C18.out _ HB3.out _ _ HRO.out).mono ?_
      intro e10 w10 hh
      obtain ⟨v5, rfl, hs5, hb⟩ := hh.sl (by simp)
      obtain ⟨a5, c5, rfl, _, _⟩ := id hs5
      simp only [List.length_nil]
      clear hs5
      clear hh
      have HB10 := Lib.hid (HB3.out.trans (hb.mono HB3.out.size))
      have HX10 := Lib.hid (HX3.out.later hb)
      have HY10 := Lib.hid (HY3.out.later hb)
      clear hb x0 x1 xf xz y0 y1 y2 yf yz HB3 HX3 HY3
      obtain ⟨x0, x1, xf, xz⟩ := HX10.out.v2
      obtain ⟨y0, y1, y2, yf, yz⟩ := HY10.out.v3
      go_wp2_with fail
      refine (C19.out _ HB10.out).mono ?_
      rintro e11 w11 ⟨rfl, hb⟩
      have HB11 := Lib.hid (HB10.out.trans (hb.mono HB10.out.size))
      have HX11 := Lib.hid (HX10.out.later hb)
      have HY11 := Lib.hid (HY10.out.later hb)
      clear hb x0 x1 xf xz y0 y1 y2 yf yz HB10 HX10 HY10
      obtain ⟨x0, x1, xf, xz⟩ := HX11.out.v2
      obtain ⟨y0, y1, y2, yf, yz⟩ := HY11.out.v3
      go_wp2_with fail
      refine (C20.out _ HB11.out).mono ?_
      rintro e12 w12 ⟨rfl, hb⟩
      have HB12 := Lib.hid (HB11.out.trans (hb.mono HB11.out.size))
      have HX12 := Lib.hid (HX11.out.later hb)
      have HY12 := Lib.hid (HY11.out.later hb)
      clear hb x0 x1 xf xz y0 y1 y2 yf yz HB11 HX11 HY11
      obtain ⟨x0, x1, xf, xz⟩ := HX12.out.v2
      obtain ⟨y0, y1, y2, yf, yz⟩ := HY12.out.v3
      go_wp2_with fail
      refine (C21.out _ HB12.out).mono ?_
      intro e13 w13 hh
      obtain ⟨v, rfl, hsh, hb⟩ := id hh
      obtain rfl := HV7.out v hsh
      clear hsh
      clear hh
      have HB13 := Lib.hid (HB12.out.trans (hb.mono HB12.out.size))
      have HX13 := Lib.hid (HX12.out.later hb)
      have HY13 := Lib.hid (HY12.out.later hb)
      clear hb x0 x1 xf xz y0 y1 y2 yf yz HB12 HX12 HY12
      obtain ⟨x0, x1, xf, xz⟩ := HX13.out.v2
      obtain ⟨y0, y1, y2, yf, yz⟩ := HY13.out.v3
      go_wp2_with fail
      go_ret
      exact ⟨rfl, HB13.out⟩
    have HV7 := Lib.hid hv
    have HALL := Lib.hid hall
    have HD0 := Lib.hid hd0
    have HDL := Lib.hid hdl
    clear hv hall hd0 hdl
    have HPE := Lib.hid hpe
    clear hpe
    obtain ⟨n5, hn5⟩ : ∃ n, L.length = n := ⟨_, rfl⟩
    have HN5 := Lib.hid hn5
    rw [hn5] at h2 h64 HDL
    clear hn5
    go_wp2_with fail
    refine (C18.out _ HB3.out _ _ HRO.out).mono ?_
    intro e14 w14 hh
    obtain ⟨v5, rfl, hs5, hb⟩ := hh.sl (by rw [HN5.out]; omega)
    have HS5 := Lib.hid hs5
    obtain ⟨a5, c5, rfl, _, _⟩ := hs5
    rw [HN5.out] at HS5 ⊢
    clear hh
    have HB14 := Lib.hid (HB3.out.trans (hb.mono HB3.out.size))
    have HX14 := Lib.hid (HX3.out.later hb)
    have HY14 := Lib.hid (HY3.out.later hb)
    clear hb x0 x1 xf xz y0 y1 y2 yf yz HB3 HX3 HY3
    obtain ⟨x0, x1, xf, xz⟩ := HX14.out.v2
    obtain ⟨y0, y1, y2, yf, yz⟩ := HY14.out.v3
    go_wp2_with fail
    refine (C19.out _ HB14.out).mono ?_
    rintro e15 w15 ⟨rfl, hb⟩
    have HB15 := Lib.hid (HB14.out.trans (hb.mono HB14.out.size))
    have HX15 := Lib.hid (HX14.out.later hb)
    have HY15 := Lib.hid (HY14.out.later hb)
    have HS5n := Lib.hid (HS5.out.later hb)
    clear HS5
    have HS5 := HS5n
    clear HS5n
    clear hb x0 x1 xf xz y0 y1 y2 yf yz HB14 HX14 HY14
    obtain ⟨x0, x1, xf, xz⟩ := HX15.out.v2
    obtain ⟨y0, y1, y2, yf, yz⟩ := HY15.out.v3
    go_wp2_with fail
    refine (C20.out _ HB15.out).mono ?_
    rintro e16 w16 ⟨rfl, hb⟩
    have HB16 := Lib.hid (HB15.out.trans (hb.mono HB15.out.size))
    have HX16 := Lib.hid (HX15.out.later hb)
    have HY16 := Lib.hid (HY15.out.later hb)
    have HS5n := Lib.hid (HS5.out.later hb)
    clear HS5
    have HS5 := HS5n
    clear HS5n
    clear hb x0 x1 xf xz y0 y1 y2 yf yz HB15 HX15 HY15
    obtain ⟨x0, x1, xf, xz⟩ := HX16.out.v2
    obtain ⟨y0, y1, y2, yf, yz⟩ := HY16.out.v3
    go_wp2_with fail
    refine (C21.out _ HB16.out).mono ?_
    intro e17 w17 hh
    obtain ⟨want, rfl, hsh, hb⟩ := id hh
    obtain ⟨hw0, hwe⟩ := HV7.out want hsh
    clear hsh
    clear hh
    have HB17 := Lib.hid (HB16.out.trans (hb.mono HB16.out.size))
    have HX17 := Lib.hid (HX16.out.later hb)
    have HY17 := Lib.hid (HY16.out.later hb)
    have HS5n := Lib.hid (HS5.out.later hb)
    clear HS5
    have HS5 := HS5n
    clear HS5n
    clear hb x0 x1 xf xz y0 y1 y2 yf yz HB16 HX16 HY16
    obtain ⟨x0, x1, xf, xz⟩ := HX17.out.v2
    obtain ⟨y0, y1, y2, yf, yz⟩ := HY17.out.v3
    have HWE := Lib.hid hwe
    clear hwe
    have k0 : decide (want < 0) = false := decide_eq_false (by omega)
    obtain ⟨a5', c5', e5, hl5, hA5⟩ := id HS5.out
    rw [HN5.out] at e5
    cases e5
    obtain ⟨b5, o5, rfl, hbb5, hc5⟩ := hA5 (by rw [HN5.out]; omega)
    have l0 := (hc5 0 (by rw [HN5.out]; omega)).c1
    have l1 := (hc5 (n5 - 1) (by rw [HN5.out]; omega)).c1
    rw [← getD_geI, HD0.out] at l0
    rw [← getD_geI, HDL.out] at l1
    rw [Nat.mul_one] at l0 l1
    rw [Nat.add_zero] at l0
    have k5 : IntKind.i64.wrap ((n5 : Int) - 1) = ((n5 - 1 : Nat) : Int) := by rw [IntWalk.i64_in _ (by omega)]; omega
    have k6 : ((n5 - 1 : Nat) : Int) < (n5 : Int) := by omega
    clear hc5 hA5 hl5
    obtain ⟨n6, hn6⟩ : ∃ n, n5 - 1 = n := ⟨_, rfl⟩
    rw [hn6] at l1 k5 k6
    clear hn6
    go_wp2_with fail
    have HK22 := Lib.hid (fun (X : Later w17) => by have h := C22.out X.w (HB17.out.trans (X.h.mono HB17.out.size)) _ L (HS5.out.later X.h); rw [HPE.out] at h; exact h)
    have HK23 := Lib.hid (fun (X : Later w17) => by have h := C23.out X.w (HB17.out.trans (X.h.mono HB17.out.size)) _ L (HS5.out.later X.h) (fun y hy => (HALL.out y hy).1) HOKP.out.times; rw [← HWE.out] at h; exact h)
    refine wp_region_later (by kernel_rfl) (by kernel_rfl) ?_
    repeat go_big_quiet_step ((first | (go_at_call 22; exact Calls.later (HK22.out _)) | (go_at_call 23; exact Calls.later (HK23.out _))))
    refine wpQuiet_nil ?_
    rintro w18 ⟨⟨_, hb⟩, rfl⟩
    clear HK22 HK23
    have HB18 := Lib.hid (HB17.out.trans (hb.mono HB17.out.size))
    have HX18 := Lib.hid (HX17.out.later hb)
    have HY18 := Lib.hid (HY17.out.later hb)
    have HS5n := Lib.hid (HS5.out.later hb)
    clear HS5
    have HS5 := HS5n
    clear HS5n
    clear hb x0 x1 xf xz y0 y1 y2 yf yz HB17 HX17 HY17
    obtain ⟨x0, x1, xf, xz⟩ := HX18.out.v2
    obtain ⟨y0, y1, y2, yf, yz⟩ := HY18.out.v3
    obtain ⟨a6, c6, e6, _, hA6⟩ := id HS5.out
    rw [HN5.out] at e6
    cases e6
    obtain ⟨b6, o6, e6, hbb5w, hc6⟩ := hA6 (by rw [HN5.out]; omega)
    cases e6
    have HC5 := Lib.hid hc6
    clear hc6 hA6
    go_wp2_with fail
    clear l0 l1
    go_loopw [9] (fun i wr => ∃ k : Nat, k ≤ n5 ∧ i = .int .i64 k ∧ Below w18.heap.size w18 wr) (fun i _ => n5 - (intOf i).toNat)
    case atStart => exact ⟨0, by omega, rfl, Below.refl _ _⟩
    case round =>
      obtain ⟨k, hk, rfl, hbe⟩ := hrel
      have HBE := Lib.hid (HB18.out.trans (hbe.mono HB18.out.size))
      have HBK := Lib.hid hbe
      have HYE := Lib.hid (HY18.out.later hbe)
      clear hbe
      obtain ⟨y0, y1, y2, yf, yz⟩ := HYE.out.v3
      by_cases hlt : k < n5
      rotate_left
      · obtain rfl : n5 = k := by omega
        go_wp2_with fail
        go_ret
        exact ⟨rfl, HBE.out⟩
      have hkl : k < L.length := by rw [HN5.out]; exact hlt
      have l0 := ((HC5.out k hkl).below HBK.out hbb5w).c1
      rw [Nat.mul_one] at l0
      have hb5z : b5 < wr.heap.size := Nat.lt_of_lt_of_le hbb5w HBK.out.size
      have HIN := Lib.hid ((HALL.out _ (List.getElem_mem hkl)).2)
      generalize L[k] = lk at *
      have HK24 := Lib.hid (fun (X : Later wr) => C24.out X.w (HBE.out.trans (X.h.mono HBE.out.size)) lk)
      rw [HIN.out] at HK24
      go_wp2_with fail
      refine wp_region_later (by kernel_rfl) (by kernel_rfl) ?_
      repeat go_big_quiet_step ((go_at_call 24; exact Calls.later_same (HK24.out _)))
      refine wpQuiet_nil ?_
      rintro wz ⟨⟨_, hb⟩, rfl⟩
      have HBZ := Lib.hid (HBK.out.trans (hb.mono HBK.out.size))
      clear hb HK24
      go_wp2_with fail
      go_roundw
      case rel => exact ⟨k + 1, by omega, by go_num, HBZ.out⟩
      case measure => simp [intOf]; omega
end Go.Proofs.YtahpdkkpnkhnhaaGreatDoor

/- Opening the arguments: a trip; sources and sinks. -/
namespace Go.Proofs.YtahpdkkpnkhnhaaGreatDoor
open Go Go.Proofs Go.RowKit Go.ChangeShapes Go.WideShapes Go.ChangeAt Go.Joins Go.Deep
section
variable {H : Type} {enc : TypeId × Value → H} {W : World}
theorem ints_le {n c : Nat} {a : Option Addr} {d : DataW H} {p : List MemPlace} (h : DataW.Trod enc Tryz.prog W 0 (fun _ => true) true 26 (.slice a n c) d p) :
    n ≤ 9223372036854775807 ∧ ∃ l, n ≤ 80 → Sl encI 1 W W.heap.size (.slice a n c) l := by
  obtain ⟨fuel, hf⟩ := h
  obtain ⟨k1, k2⟩ := sl_ints hf
  refine ⟨k1, ?_⟩
  by_cases h8 : n ≤ 80
  · obtain ⟨l, _, h2, _⟩ := k2 (by omega)
    exact ⟨l, fun _ => h2⟩
  · exact ⟨[], fun h => absurd h h8⟩
set_option maxRecDepth 100000 in
/-- A trip by value. -/
theorem trip_open {r : Reach} {b0 : Nat} {v : Value} {d : DataW H} {p : List MemPlace} (hv : Value.okWide Tryz.prog W r b0 28 v) (h : DataW.Trod enc Tryz.prog W 0 (fun _ => true) true 28 v d p) :
    ∃ x y a n c, v = .agg #[.int .i64 x, .int .i64 y, .slice a n c] ∧ n ≤ 9223372036854775807 ∧ ∃ l, n ≤ 80 → Sl encI 1 W W.heap.size (.slice a n c) l := by
  obtain ⟨v0, v1, v2, y0, y1, y2, n, rfl, _, _, h0, h1, h2⟩ := open_agg3 Tryz.underlying28 (by kernel_rfl) (by kernel_rfl) hv h
  obtain ⟨x, e0, _, _⟩ := DataW.trod_int Tryz.underlying3 h0
  obtain ⟨y, e1, _, _⟩ := DataW.trod_int Tryz.underlying3 h1
  obtain ⟨a1, n1, c1, e2⟩ := slice_form Tryz.underlying26 h2
  cases e0
  cases e1
  cases e2
  obtain ⟨k1, k2⟩ := ints_le ⟨_, h2⟩
  exact ⟨x, y, a1, n1, c1, rfl, k1, k2⟩
end
end Go.Proofs.YtahpdkkpnkhnhaaGreatDoor
